/-
  Chapter 06: which names may be.
-/
import Derived.Test.YteeifedpabcehaaTT06
import Derived.Test.YteeifedpabcehaaLays06
import Derived.Test.YteeifedpabcehaaBxZc
import Derived.Laws.RangeString
import Derived.Laws.RangeAny
namespace Go.Proofs.Yteeifedpabcehaa.Ax
open Go.RowKit
set_option maxRecDepth 100000
def frzF : Op → Bool
  | .makeFunc .. => true
  | _ => false
noncomputable def cfg (N b : Nat) : Cfg := { P := Go.Proofs.Try.prog, T := tt, wr := false, N := N, pure := [], base := b, frz := frzF }
theorem cfgOk (N b : Nat) : (cfg N b).Ok := ⟨ttOk, ttBytes, by kernel_rfl⟩
/-- A function of data alone, in the kit's words. -/
theorem AFn.below {P : Program} {F : FuncId} {args : List IV} {r : Value} (h : AFn P F (args.map AV.iv) ⟨0, []⟩ (fun _ : Unit => .iv (.v r)) (fun _ => ⟨0, []⟩)) {W : World} (hG : GOk (immOf W)) {vs : List Value} (hr : IV.Rs (immOf W) args vs) : Calls P F vs.toArray W fun e W' => e = .returned r ∧ Below W.heap.size W W' := by
  refine (h.run _ _ W vs hG (SR.start W) ((Rs_iv _ _).2 hr)).mono fun e w' hp => ?_
  cases e with
  | returned v =>
    obtain ⟨r', H', ρ', ι', ⟨x, e1, e2⟩, h1, h2, h3⟩ := hp
    subst e1 e2
    simp only [AV.R, IV.R] at h1
    subst h1
    have ht := h3.touch
    exact ⟨rfl, ht.os, ht.tape, ht.output, ht.size, fun k hk => ht.block k hk fun ⟨p, hp, _⟩ => by cases hp⟩
  | panicked ch => obtain ⟨v, _, r, H', ρ', ι', h, _⟩ := hp; exact h.elim
  | outgrown => exact hp.elim
/-- A function of the library, of data alone. -/
theorem AFn.lib {P : Program} {f : FuncId} {args : List IV} {r : Value} (hfn : ∃ fn, P.funcs[f]? = some fn ∧ (fn.name == "runtime.NumGoroutine") = false ∧ fn.body.isNone = false) (h : ∀ ι w vs, IV.Rs ι args vs → Calls P f vs.toArray w fun e w' => e = .returned r ∧ Below w.heap.size w w') :
    AFn P f (args.map AV.iv) ⟨0, []⟩ (fun _ : Unit => .iv (.v r)) (fun _ => ⟨0, []⟩) :=
  ⟨hfn, fun ρ ι w cargs hG hS hr => by
    refine (h ι w cargs ((Rs_iv _ _).1 hr)).mono fun e w' ⟨he, hb⟩ => ?_
    subst he
    have ht : Touch (fun _ => False) w w' := ⟨hb.os, hb.tape, hb.output, hb.size, fun k hk _ => hb.block k hk⟩
    obtain ⟨_, q2, q3⟩ := hS.addImm ht w.heap.size (Nat.le_refl _) (fun _ => none) (fun o v h => by cases h)
    exact ⟨.iv (.v r), _, ρ, _, ⟨(), rfl, rfl⟩, by simp only [AV.R, IV.R], q2, q3⟩⟩
def okC (r : Nat) : Bool := decide (97 ≤ r ∧ r ≤ 122) || decide (48 ≤ r ∧ r ≤ 57) || decide (r = 45) || decide (r = 46)
def oddC (r : Nat) : Bool := !okC r
theorem odd_ok (r : Nat) : AFn Go.Proofs.Try.prog 31 [.iv (.v (.int .i32 (r : Nat)))] ⟨0, []⟩ (fun _ : Unit => AV.bool (oddC r)) (fun _ => ⟨0, []⟩) := by
  refine ACall.walk (C := cfg 25 0) (cfgOk _ _) [] (fn := Go.Proofs.Try.f31) (by kernel_rfl) (by kernel_rfl) rfl (by kernel_rfl) (by kernel_rfl) rfl rfl ?_
  (conv => whnf); repeat ((first | (refine And.intro ?_ ?_; (focus ((repeat' (first | exact trivial | refine And.intro rfl ?_)); done))) | (refine And.intro ?_ ?_; (focus (first | omega | (dsimp -iota only; omega) | (simp -iota; omega) | (simp -iota; done) | decide)))); conv => whnf)
  repeat' (refine branchB_of (fun h => ?_) (fun h => ?_) <;> ((conv => whnf); repeat ((first | (refine And.intro ?_ ?_; (focus ((repeat' (first | exact trivial | refine And.intro rfl ?_)); done))) | (refine And.intro ?_ ?_; (focus (first | omega | (dsimp -iota only; omega) | (simp -iota; omega) | (simp -iota; done) | decide)))); conv => whnf)))
  all_goals
    refine ⟨(), ?_, rfl⟩
    congr 3
    simp only [decide_eq_true_eq, decide_eq_false_iff_not] at *
    unfold oddC okC
    rw [Bool.eq_iff_iff]
    simp only [decide_eq_true_eq, Bool.not_eq_true', Bool.or_eq_false_iff, decide_eq_false_iff_not, Bool.false_eq_true]
    first | omega | (refine ⟨fun hf => hf.elim, fun h3 => ?_⟩; exfalso; omega)
theorem idxF_all (s : ByteArray) : ∀ (f pos : Nat), s.size ≤ pos + f → (Lib.idxFuncFrom oddC true s f pos < 0 ↔ ∀ i (h : i < s.size), pos ≤ i → okC (s[i]'h).toNat = true)
  | 0, pos, hf => by
    simp only [Lib.idxFuncFrom]
    constructor
    · intro _ i h hp
      omega
    · intro _
      omega
  | f + 1, pos, hf => by
    unfold Lib.idxFuncFrom
    by_cases hp : pos < s.size
    · rw [if_pos hp]
      by_cases ha : (s[pos]'hp).toNat < 128
      · rw [Go.decode_ascii s pos hp ha]
        simp only
        cases hk : okC (s[pos]'hp).toNat with
        | true =>
          rw [if_neg (by simp [oddC, hk]), idxF_all s f (pos + 1) (by omega)]
          constructor
          · intro h i hi hpi
            rcases Nat.eq_or_lt_of_le hpi with e | e
            · subst e; exact hk
            · exact h i hi e
          · intro h i hi hpi
            exact h i hi (by omega)
        | false =>
          rw [if_pos (by simp [oddC, hk])]
          constructor
          · intro h
            omega
          · intro h
            rw [h pos hp (Nat.le_refl _)] at hk
            cases hk
      · obtain ⟨h1, h2⟩ := Go.decode_high s pos hp (by omega)
        have hk : okC (Utf8.decode s pos).1 = false := by
          simp only [okC, Bool.or_eq_false_iff, decide_eq_false_iff_not]
          omega
        have hk2 : okC (s[pos]'hp).toNat = false := by
          simp only [okC, Bool.or_eq_false_iff, decide_eq_false_iff_not]
          omega
        rw [if_pos (by simp [oddC, hk])]
        constructor
        · intro h
          omega
        · intro h
          rw [h pos hp (Nat.le_refl _)] at hk2
          cases hk2
    · rw [if_neg hp]
      constructor
      · intro _ i h hpi
        omega
      · intro _
        omega
def mayB (x : List UInt8) : Bool := decide (1 ≤ x.length ∧ x.length ≤ 32) && x.all fun c => okC c.toNat
theorem idx_may (x : List UInt8) : (Lib.idxFunc oddC true ⟨x.toArray⟩ < 0) ↔ (x.all fun c => okC c.toNat) = true := by
  unfold Lib.idxFunc
  rw [idxF_all _ _ _ (by omega), List.all_eq_true]
  constructor
  · intro h c hc
    obtain ⟨i, hi, e⟩ := List.getElem_of_mem hc
    have := h i (show i < x.toArray.size by simpa using hi) (Nat.zero_le _)
    rw [← e]
    have e2 : (⟨x.toArray⟩ : ByteArray)[i]'(show i < x.toArray.size by simpa using hi) = x[i] := by show x.toArray[i] = _; simp
    rw [e2] at this
    exact this
  · intro h i hi _
    have hi' : i < x.length := by have : i < x.toArray.size := hi; simpa using this
    have := h x[i] (List.getElem_mem hi')
    have e2 : (⟨x.toArray⟩ : ByteArray)[i]'hi = x[i] := by show x.toArray[i]'hi = _; simp
    rw [e2]
    exact this
theorem idx_ok (x : List UInt8) : AFn Go.Proofs.Try.prog 32 [.str x, .iv (.v (.func (.func 31) ⟨[]⟩ ⟨[]⟩))] ⟨0, []⟩ (fun _ : Unit => AV.int .i64 (Lib.idxFunc oddC true ⟨x.toArray⟩)) (fun _ => ⟨0, []⟩) := by
  refine AFn.lib (args := [.str x, .v (.func (.func 31) ⟨[]⟩ ⟨[]⟩)]) ⟨_, Try.func32, by kernel_rfl, by kernel_rfl⟩ fun ι w vs hr => ?_
  simp only [IV.Rs, IV.R] at hr
  obtain ⟨u, us, rfl, rfl, u', us', rfl, rfl, rfl⟩ := hr
  refine Any.strings_IndexFunc_grows (P := Go.Proofs.Try.prog) Try.idxfn 31 #[] (enters_of Try.func31 (by kernel_rfl) rfl) oddC ⟨x.toArray⟩ w fun W r _ _ => ?_
  exact AFn.below (args := [.v (.int .i32 (r : Nat))]) (odd_ok r) (fun p hp => by simp [globs] at hp) ⟨_, _, rfl, rfl, rfl⟩
theorem may_ok (x : List UInt8) : AFn Go.Proofs.Try.prog 11 [.str x] ⟨0, []⟩ (fun _ : Unit => AV.bool (mayB x)) (fun _ => ⟨0, []⟩) := by
  refine ACall.fin ?_
  refine ACall.walk (C := cfg 18 0) (cfgOk _ _) [] (fn := Go.Proofs.Try.f11) (by kernel_rfl) (by kernel_rfl) rfl (by kernel_rfl) (by kernel_rfl) rfl rfl ?_
  (conv => whnf); repeat ((first | (refine And.intro ?_ ?_; (focus ((repeat' (first | exact trivial | refine And.intro rfl ?_)); done))) | (refine And.intro ?_ ?_; (focus (first | omega | (dsimp -iota only; omega) | (simp -iota; omega) | (simp -iota; done) | decide)))); conv => whnf)
  refine branchB_of (fun h1 => ?_) (fun h1 => ?_) <;> (first | replace h1 := not_t h1 | replace h1 := not_f h1 | skip) <;> (first | replace h1 := of_decide_eq_true h1 | replace h1 := of_decide_eq_false h1 | skip) <;> (first | replace h1 := Classical.not_not.1 h1 | skip) <;> (try dsimp only at h1)
  · (conv => whnf); repeat ((first | (refine And.intro ?_ ?_; (focus ((repeat' (first | exact trivial | refine And.intro rfl ?_)); done))) | (refine And.intro ?_ ?_; (focus (first | omega | (dsimp -iota only; omega) | (simp -iota; omega) | (simp -iota; done) | decide)))); conv => whnf)
    refine branchB_of (fun h2 => ?_) (fun h2 => ?_) <;> (first | replace h2 := not_t h2 | replace h2 := not_f h2 | skip) <;> (first | replace h2 := of_decide_eq_true h2 | replace h2 := of_decide_eq_false h2 | skip) <;> (first | replace h2 := Classical.not_not.1 h2 | skip) <;> (try dsimp only at h2)
    · (conv => whnf); repeat ((first | (refine And.intro ?_ ?_; (focus ((repeat' (first | exact trivial | refine And.intro rfl ?_)); done))) | (refine And.intro ?_ ?_; (focus (first | omega | (dsimp -iota only; omega) | (simp -iota; omega) | (simp -iota; done) | decide)))); conv => whnf)
      refine AFn.use [] (idx_ok x) (by kernel_rfl) rfl (by repeat' first | exact trivial | refine ⟨rfl, ?_⟩) fun _ => ?_
      (conv => whnf); repeat ((first | (refine And.intro ?_ ?_; (focus ((repeat' (first | exact trivial | refine And.intro rfl ?_)); done))) | (refine And.intro ?_ ?_; (focus (first | omega | (dsimp -iota only; omega) | (simp -iota; omega) | (simp -iota; done) | decide)))); conv => whnf)
      refine ⟨_, _, Ent.mk' (e' := [(0, AV.bool (mayB x))]) (H' := ⟨0, []⟩) [] (by kernel_rfl) ?_ ?_, (), rfl, rfl⟩
      · refine ⟨AVE.bool ?_, trivial⟩
        unfold mayB
        rw [decide_eq_true (show 1 ≤ x.length ∧ x.length ≤ 32 by omega), Bool.true_and, Bool.eq_iff_iff, decide_eq_true_eq]
        exact idx_may x
      · trivial
    · have e : mayB x = false := by
        unfold mayB
        rw [decide_eq_false (show ¬ (1 ≤ x.length ∧ x.length ≤ 32) by omega), Bool.false_and]
      rw [e]
      (conv => whnf); repeat ((first | (refine And.intro ?_ ?_; (focus ((repeat' (first | exact trivial | refine And.intro rfl ?_)); done))) | (refine And.intro ?_ ?_; (focus (first | omega | (dsimp -iota only; omega) | (simp -iota; omega) | (simp -iota; done) | decide)))); conv => whnf)
      refine ⟨_, _, Ent.mk' (e' := [(0, AV.bool false)]) (H' := ⟨0, []⟩) [] (by kernel_rfl) ?_ ?_, (), rfl, rfl⟩
      · exact ⟨AVE.refl _, trivial⟩
      · trivial
  · have e : mayB x = false := by
      unfold mayB
      rw [decide_eq_false (show ¬ (1 ≤ x.length ∧ x.length ≤ 32) by omega), Bool.false_and]
    rw [e]
    (conv => whnf); repeat ((first | (refine And.intro ?_ ?_; (focus ((repeat' (first | exact trivial | refine And.intro rfl ?_)); done))) | (refine And.intro ?_ ?_; (focus (first | omega | (dsimp -iota only; omega) | (simp -iota; omega) | (simp -iota; done) | decide)))); conv => whnf)
    refine ⟨_, _, Ent.mk' (e' := [(0, AV.bool false)]) (H' := ⟨0, []⟩) [] (by kernel_rfl) ?_ ?_, (), rfl, rfl⟩
    · exact ⟨AVE.refl _, trivial⟩
    · trivial
end Go.Proofs.Yteeifedpabcehaa.Ax
