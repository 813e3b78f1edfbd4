/-
  Operations that only read hang on their operands, and on chunks that are there; operations that make or write memory.
-/
import Derived.Test.YtgfkepebfaiepaaGreatDoorBxJ
namespace Go.Proofs.YtgfkepebfaiepaaGreatDoor.Ax
open Go.RowKit
def AH.Sub (H H' : AH) : Prop := ∀ h c, H.get h = some c → H'.get h = some c
theorem AH.Sub.refl (H : AH) : AH.Sub H H := fun _ _ h => h
section
variable {T : TT}
theorem bytes_mono {H H' : AH} (hs : AH.Sub H H') {x : AV} {l : List UInt8} (h : H.bytes x = some l) : H'.bytes x = some l ∧ H'.bytesOk x = H.bytesOk x := by
 unfold AH.bytes at h
 split at h
 ·exact ⟨by simpa [AH.bytes] using h, rfl⟩
 ·exact ⟨by simpa [AH.bytes] using h, rfl⟩
 ·split at h
  ·rename_i hg
   have := hs _ _ hg
   exact ⟨by simp only [AH.bytes, this]; exact h, by simp only [AH.bytesOk, this, hg]⟩
  ·cases h
 ·cases h
theorem rop_mono (wr : Bool) (g : Operand → AV) {H H' : AH} (hs : AH.Sub H H') (op : Op) (hn : rop T wr g H op ≠ .no) : rop T wr g H' op = rop T wr g H op := by
 cases op <;> simp only [rop] at hn ⊢
 case unOp op t x => cases op <;> rfl
 case convert s d x =>
  unfold cop at hn ⊢
  cases hts : T.get s with
  | none => rfl
  | some ts =>
    cases htd : T.get d with
    | none => rfl
    | some td =>
      simp only [hts, htd] at hn ⊢
      obtain ⟨tk, tsz, tby, tz⟩ := td
      simp only at hn ⊢
      cases tk <;> try rfl
      case int k0 =>
       cases g x with
       | iv y => cases y with
         | v z => cases z <;> rfl
         | _ => rfl
       | _ => rfl
      case str =>
       have key : ∀ x : AV, copB T H ts x ≠ .no → copB T H' ts x = copB T H ts x := by
        intro x hx
        unfold copB at hx ⊢
        cases hu : isU8 T ts with
        | false => rfl
        | true =>
          simp only [hu, cond_true] at hx ⊢
          cases hb : H.bytes x with
          | none => simp only [hb] at hx; exact absurd rfl hx
          | some l =>
            obtain ⟨h1, h2⟩ := bytes_mono hs hb
            simp only [h1, h2]
       cases hx : g x with
       | iv y => cases y <;> first | rfl | (rw [hx] at hn; exact key _ hn)
       | _ => rw [hx] at hn; exact key _ hn
 case load t a =>
  unfold loadA at hn ⊢
  have : ptrCells H (g a) ≠ none → ptrCells H' (g a) = ptrCells H (g a) := by
   intro hp
   unfold ptrCells at hp ⊢
   split
   ·rename_i h off he
    simp only [he] at hp
    cases hg : H.get h with
    | none => simp only [hg] at hp; exact absurd rfl hp
    | some c => rw [hs _ _ hg]
   ·rename_i h sz i fo he
    simp only [he] at hp
    cases hg : H.get h with
    | none => simp only [hg] at hp; exact absurd rfl hp
    | some c => rw [hs _ _ hg]
   ·rfl
   ·rfl
   ·rfl
  cases hp : ptrCells H (g a) with
  | none => rw [hp] at hn; exact absurd rfl hn
  | some p => rw [this (by rw [hp]; simp), hp]
 case lookup t m k ok =>
  unfold lookA at hn ⊢
  cases hx : g m with
  | mp h =>
    cases hg : H.get h with
    | some c => simp only [hs _ _ hg, hg]
    | none =>
      exfalso
      apply hn
      simp only [hx, hg]
      split <;> try rfl
      split <;> try rfl
      split <;> try rfl
      split <;> rfl
  | iv y => cases y with
    | v z => cases z with
      | map r => cases r <;> rfl
      | _ => rfl
    | _ => rfl
  | _ => rfl
 case call c =>
  obtain ⟨callee, args, ats⟩ := c
  cases callee <;> simp only at hn ⊢
  rename_i b
  unfold builtinA at hn ⊢
  split <;> try rfl
  rename_i t ts x xs h1 h2
  simp only [h1, h2] at hn
  unfold lenA at hn ⊢
  cases hd : T.get t with
  | none => rfl
  | some d =>
    simp only [hd] at hn ⊢
    cases hk : d.k <;> try rfl
    all_goals
     cases hx : g x with
     | mp h =>
       first
       | rfl
       | (cases hg : H.get h with
        | some c => simp only [hs _ _ hg, hg]
        | none => simp only [hk, hx, hg] at hn; exact absurd rfl hn)
     | iv y => cases y with
       | v z => cases z with
         | map r => cases r <;> rfl
         | _ => rfl
       | _ => rfl
     | _ => rfl
theorem map_congr' {α β : Type} {f g : α → β} {l : List α} (h : ∀ x ∈ l, f x = g x) : l.map f = l.map g := List.map_congr_left h
theorem optInt_congr {g g' : Operand → AV} {d : Int} {o : Option Operand} (h : ∀ x, o = some x → g x = g' x) : optInt g d o = optInt g' d o := by
 cases o with
 | none => rfl
 | some x => simp only [optInt, h x rfl]
theorem rop_congr (wr : Bool) {g g' : Operand → AV} (H : AH) (op : Op) (h : ∀ x ∈ op.operands, g x = g' x) : rop T wr g H op = rop T wr g' H op := by
 cases op <;> simp only [Op.operands] at h <;> simp only [rop]
 case pick c x y => rw [h c (by simp), h x (by simp), h y (by simp)]
 case build t ps => rw [map_congr' (l := ps.toList) (g := fun p => (p.1, g' p.2)) (fun p hp => by rw [h p.2 (by simp only [List.mem_toArray, List.mem_map]; exact ⟨p, hp, rfl⟩)])]
 case makeFunc fn a c =>
  rw [map_congr' (l := a.toList) (g := g') (fun x hx => h x (by simp at hx; simp [hx])), map_congr' (l := c.toList) (g := g') (fun x hx => h x (by simp at hx; simp [hx]))]
 case slice t x lo hi mx =>
  have h1 : g x = g' x := h x (by simp)
  have hl : ∀ d, optInt g d lo = optInt g' d lo := fun d => optInt_congr fun y hy => h y (by subst hy; simp)
  have hh : ∀ d, optInt g d hi = optInt g' d hi := fun d => optInt_congr fun y hy => h y (by subst hy; simp)
  have hm : ∀ d, optInt g d mx = optInt g' d mx := fun d => optInt_congr fun y hy => h y (by subst hy; simp)
  unfold sliceA
  simp only [h1, hl, hh, hm]
 case unOp op t x => cases op <;> simp only [h x (by simp)]
 case binOp op t x y t2 =>
  have h1 : g x = g' x := h x (by simp)
  have h2 : g y = g' y := h y (by simp)
  show binA T wr op t g x y = binA T wr op t g' x y
  unfold binA
  rw [h1, h2]
 case call c =>
  obtain ⟨callee, args, ats⟩ := c
  cases callee <;> simp only
  rename_i b
  have ha : ∀ x ∈ args.toList, g x = g' x := fun x hx => h x (by simp [Call.operands]; simpa using hx)
  generalize args.toList = al at ha ⊢
  unfold builtinA
  split
  ·rw [ha _ (by simp)]
  ·rw [ha _ (by simp), ha _ (by simp)]
  ·rw [ha _ (by simp), ha _ (by simp)]
  ·rename_i h1 h2 h3
   rfl
 all_goals first | rfl | (simp only [h _ (by simp)]; done) | (rw [h _ (by simp), h _ (by simp)]; done) | (rw [h _ (by simp)]; done)
end
end Go.Proofs.YtgfkepebfaiepaaGreatDoor.Ax
