/-
  Short words for walks: what closes by itself is closed by itself.
-/
import Derived.Test.YtpgdbeacmlojcaaGreatBxZe
namespace Go.Proofs.YtpgdbeacmlojcaaGreat.Ax
open Go.RowKit
/-- One condition, then the rest. -/
theorem sideI {a b : Prop} (hb : b) (ha : a := by first | ((repeat' (first | exact trivial | refine And.intro rfl ?_)); done) | omega | (dsimp -iota only; omega) | (simp -iota; omega) | (simp -iota; done) | decide) : a ∧ b := ⟨ha, hb⟩
/-- Chunks that stay as they are. -/
theorem subC {p : Prop} (h : p := by (repeat' first | exact trivial | refine ⟨⟨_, rfl, ChE.refl _⟩, ?_⟩)) : p := h
/-- A call by a shaped contract. -/
theorem AFn.useA {P : Program} {f : FuncId} {args0 : List AV} {H0 : AH} {X : Type} {R : X → AV} {HH : X → AH} (l : List Nat) (h : AFn P f args0 H0 R HH) {args : List AV} {H : AH} {K QP : AV → AH → Prop}
    (hK : ∀ x, K ((R x).ren (sig l H0.next H.next)) (mergeH l H H0 (HH x)))
    (hok : useOk l H H0 = true := by kernel_rfl) (hargs : args = AV.rens (sig l H0.next H.next) args0 := by rfl) (hsub : subRen (sig l H0.next H.next) H H0.ch := by repeat' first | exact trivial | refine ⟨rfl, ?_⟩) : ACall P f args H K QP :=
  AFn.use l h hok hargs hsub hK
/-- A state told anew, its slots closed by themselves, its chunks left. -/
theorem Ent.mkC {N B : Nat} {e e' : Env} {H H' : AH} (l : List (Option Nat)) (hch : chE (sigO l H.next) l H H'.ch) (hok : entOk B l H H' = true := by kernel_rfl)
    (henv : envE (sigO l H.next) e e' := by repeat' first | exact trivial | refine And.intro (AVE.refl _) ?_ | refine And.intro (AVE.int (by first | rfl | omega | (dsimp only; omega) | (simp -iota; omega) | (simp -iota; done))) ?_ | refine And.intro (AVE.bool (by assumption)) ?_ | refine And.intro (AVE.len (by first | rfl | omega | (dsimp only; omega) | (simp -iota; omega) | (simp -iota; done))) ?_) : Ent N B e H e' H' :=
  Ent.mk' l hok henv hch
/-- A state told anew, its chunks as they are. -/
theorem Ent.mkA {N B : Nat} {e e' : Env} {H H' : AH} (l : List (Option Nat)) (hok : entOk B l H H' = true := by kernel_rfl)
    (henv : envE (sigO l H.next) e e' := by repeat' first | exact trivial | refine And.intro (AVE.refl _) ?_ | refine And.intro (AVE.int (by first | rfl | omega | (dsimp only; omega) | (simp -iota; omega) | (simp -iota; done))) ?_ | refine And.intro (AVE.bool (by assumption)) ?_ | refine And.intro (AVE.len (by first | rfl | omega | (dsimp only; omega) | (simp -iota; omega) | (simp -iota; done))) ?_)
    (hch : chE (sigO l H.next) l H H'.ch := by (repeat' first | exact trivial | refine ⟨⟨_, rfl, ChE.refl _⟩, ?_⟩)) : Ent N B e H e' H' :=
  Ent.mk' l hok henv hch
end Go.Proofs.YtpgdbeacmlojcaaGreat.Ax
