/-
  Closed runs: a law that takes nothing.
-/
import Derived.Test.YtjhaikcokbmdbaaGreatDoorCxZc
namespace Go.Proofs.YtjhaikcokbmdbaaGreatDoor.Cx
open Go.RowKit Go.Proofs.YtjhaikcokbmdbaaGreatDoor.Ax

noncomputable def allT (l : List Fin) : Bool := List.rec (motive := fun _ => Bool) true (fun x _ r => match x with
  | .ret (.bool true) _ => r
  | _ => false) l
/-- Every answer is 'true'. -/
noncomputable def goodA (a : Ans) : Bool := match a with
  | .ok l => allT l
  | _ => false
theorem allT_cons (y : Fin) (ys : List Fin) : allT (y :: ys) = match y with
  | .ret (.bool true) _ => allT ys
  | _ => false := rfl
theorem allT_spec : ∀ {l : List Fin}, allT l = true → ∀ x ∈ l, ∃ H, x = .ret (.bool true) H
  | [], _, x, hx => by cases hx
  | y :: ys, h, x, hx => by
    rw [allT_cons] at h
    split at h
    · rename_i H
      rcases List.mem_cons.1 hx with rfl | hx
      · exact ⟨H, rfl⟩
      · exact allT_spec h x hx
    · cases h
theorem h0_next : h0.next = gmaps.length := by
  unfold h0
  exact len_eq gmaps
theorem SR.start {W : World} (hW : GmW W) : ∃ ρ : Rho, SR W ρ h0 W := by
  have no : ∀ h c, CH.get h0 h = some c → False := fun h c hc => by
    have : CH.get h0 h = none := Tr.get_lf _
    rw [this] at hc
    cases hc
  have hr : ∀ i : Nat, ∃ r : Nat, ∀ x : Nat × KK × List (CK × CV), gmaps[i]? = some x → r < W.heap.size ∧ W.cell? ⟨x.1, 0, Option.none⟩ = some (.map (some r)) ∧ ∀ ρ' : Rho, Chunk.R ρ' (r, 0) W (.map x.2.1 0 x.2.2 none) := fun i => by
    cases hx : gmaps[i]? with
    | none => exact ⟨0, fun x h => by cases h⟩
    | some y =>
      obtain ⟨r, h⟩ := hW i y hx
      exact ⟨r, fun x hx => by injection hx with hx; subst hx; exact h⟩
  refine ⟨fun i => if i < gmaps.length then some ((hr i).choose, 0) else Option.none, ⟨rfl, rfl, rfl, Nat.le_refl _, fun _ _ => rfl⟩, fun h c hc => (no h c hc).elim, fun h hh => if_neg (by have := h0_next; omega), fun h c p hc => (no h c hc).elim, fun h h' c c' p p' h1 => (no h c h1).elim, fun h p hm q ver left last kk m bs bm since seen st es clock v h1 => (no _ _ h1).elim, fun i x hx => ?_⟩
  have hlt := (List.getElem?_eq_some_iff.1 hx).1
  exact ⟨by have := h0_next; omega, (hr i).choose, if_pos hlt, (hr i).choose_spec x hx⟩
theorem GOk.none {W : World} (hW : GmW W) : GOk .lf W := ⟨hW, fun g cs h => by
  rw [Tr.get_lf] at h
  cases h⟩
theorem XOk.none {P : Program} {G : Tr (List CV)} {S : Nat} {lo : laidOutB P = true} (W : World) : XOk ⟨P, .lf, G, S, lo⟩ W := fun f x args H l h => by
  have : (Tr.lf : Tr Nat).get f = Option.none := Tr.get_lf f
  rw [this] at h
  cases h
/-- **A law that takes nothing, reckoned.** -/
theorem calls_of_run {C : Cf} {W : World} (hG : GOk C.G W) (hm : C.P.follows .mixedOrders = true) (hX : XOk C W) {f : Nat} {fd : Func} (hf : C.P.funcs[f]? = some fd) (hn : (fd.name == "runtime.NumGoroutine") = false) (hb : fd.body.isNone = false) (hx : C.X.get f = Option.none) (h : goodA (mainC C f) = true) :
    Calls C.P f #[] W fun e W' => e = .returned (.bool true) ∧ Below W.heap.size W W' := by
  unfold goodA at h
  split at h
  · rename_i l hl
    obtain ⟨ρ0, hS0⟩ := SR.start hG.1
    have hc := (callN_ok hG hm hX 1000).fn f [] h0 l hl ρ0 W [] hS0 (by simp only [CV.Rs])
    have hcf : (callFunc f #[]).run C.P W = .ok (.enter f #[]) W := by
      simp only [callFunc, Sem.run_bind, run_program, Result.andThen_ok, hf, hn, hb, Bool.false_eq_true, if_false, Sem.run_pure]
    rcases hc with ⟨f', as, w0, e1, e2⟩ | ⟨h1, _⟩
    · have e1 : (callFunc f #[]).run C.P W = .ok (.enter f' as) w0 := e1
      rw [hcf] at e1
      injection e1 with e1 e3
      injection e1 with e4 e5
      subst e3 e4 e5
      refine (callsIn_wide.1 e2).mono fun en w' hg => ?_
      cases en with
      | returned u =>
        obtain ⟨v, H', ρ', g1, g2, g3, g4⟩ := hg
        obtain ⟨H2, e6⟩ := allT_spec h _ g1
        injection e6 with e6 e7
        subst e6
        simp only [CV.R] at g4
        subst g4
        exact ⟨rfl, g3.base.os, g3.base.tape, g3.base.output, g3.base.size, g3.base.block⟩
      | panicked ch =>
        obtain ⟨u, v, H', ρ', _, g1, _⟩ := hg
        obtain ⟨H2, e6⟩ := allT_spec h _ g1
        cases e6
      | outgrown => exact hg.elim
    · exact absurd hx h1
  · cases h
end Go.Proofs.YtjhaikcokbmdbaaGreatDoor.Cx
