/-
  chapter 06: values gathered, keys sorted
-/
import Derived.Test.YteeifedpabcehaaQc
import Derived.Test.YteeifedpabcehaaUa
import Derived.Test.YteeifedpabcehaaBxZe
import Derived.Test.YteeifedpabcehaaLays06b
namespace Go.Proofs.Yteeifedpabcehaa.Ax
open Go.RowKit
set_option maxRecDepth 100000
@[reducible] def nmH (m : NM) : AH := ⟨2, [(0, .cells 62 [.mp 1]), (1, .map none (smap un m))]⟩
noncomputable def cfgV (N b : Nat) : Cfg := { P := Go.Proofs.Try.prog, T := tt, wr := false, N := N, pure := [], base := b }
theorem cfgVOk (N b : Nat) : (cfgV N b).Ok := ⟨ttOk, ttBytes, by kernel_rfl⟩
theorem ChE.stand {kk : Option IntKind} {m : List (MK × IV)} {left : List MK} {i : Nat} {la : Option (MK × IV)} : ChE (.mapit kk m left i la) (.mapit kk m left i none) := ⟨fun ρ ι hv w h => by
  obtain ⟨b, it, hi, es, clock, since, seen, last, h1, h2, h3, h4, h5, h6, h7, h8, h9, h10, h11, _⟩ := h
  exact ⟨b, it, hi, es, clock, since, seen, last, h1, h2, h3, h4, h5, h6, h7, h8, h9, h10, h11, fun p hp => by cases hp⟩⟩
theorem cfgVOk' (N b l : Nat) : ({ cfgV N 3 with ro := some l, base := b } : Cfg).Ok := ⟨ttOk, ttBytes, by kernel_rfl⟩
/-- Those whose keys are left. -/
def lf (m : NM) (left : List MK) : NM := m.filter fun p => decide (MK.s p.1 ∈ left)
theorem lf_take : ∀ {m : NM} {left : List MK} {k : List UInt8} {n : Nat}, (m.map (·.1)).Nodup → (k, n) ∈ m → MK.s k ∈ left → (lf m left).Perm ((k, n) :: lf m (left.filter fun j => decide (j ≠ MK.s k)))
  | [], _, _, _, _, h, _ => by cases h
  | (x, y) :: m, left, k, n, hn, hm, hl => by
    simp only [List.map_cons, List.nodup_cons] at hn
    have out : ∀ p ∈ m, p.1 ≠ k → (MK.s p.1 ∈ left ↔ MK.s p.1 ∈ left.filter fun j => decide (j ≠ MK.s k)) := fun p _ hp => by simp [hp]
    rcases List.mem_cons.1 hm with e | hm
    · injection e with e1 e2
      subst e1 e2
      unfold lf
      rw [List.filter_cons_of_pos (by simpa using hl), List.filter_cons_of_neg (by simp)]
      refine List.Perm.cons _ (List.Perm.of_eq (List.filter_congr fun p hp => ?_))
      rw [decide_eq_decide]
      exact out p hp fun e => hn.1 (List.mem_map.2 ⟨p, hp, e⟩)
    · have hxk : x ≠ k := fun e => hn.1 (List.mem_map.2 ⟨(k, n), hm, e.symm⟩)
      have ih := lf_take hn.2 hm hl
      unfold lf at ih ⊢
      by_cases h : MK.s x ∈ left
      · have h2 : MK.s x ∈ left.filter fun j => decide (j ≠ MK.s k) := by simp [h, hxk]
        rw [List.filter_cons_of_pos (by simpa using h), List.filter_cons_of_pos (by simpa using h2)]
        exact (List.Perm.cons _ ih).trans (List.Perm.swap ..)
      · have h2 : ¬ MK.s x ∈ left.filter fun j => decide (j ≠ MK.s k) := by simp [h]
        rw [List.filter_cons_of_neg (by simpa using h), List.filter_cons_of_neg (by simpa using h2)]
        exact ih
theorem lf_all (m : NM) : lf m ((smap un m).map (·.1)) = m := by
  unfold lf
  rw [List.filter_eq_self]
  intro p hp
  rw [decide_eq_true_eq]
  exact List.mem_map.2 ⟨(MK.s p.1, un p.2), List.mem_map_of_mem (f := fun p : List UInt8 × Nat => (MK.s p.1, un p.2)) hp, rfl⟩
structure VS (m : NM) where
  left : List MK
  pre : List Nat
  h : (pre ++ (lf m left).map (·.2)).Perm (m.map (·.2))
theorem values_seq (m : NM) (hm : (m.map (·.1)).Nodup) : SeqN Go.Proofs.Try.prog 53 [] [.ptr 0 0] (nmH m) (fun n : Nat => [un n]) (fun pre _ => pre.length < m.length) (fun xs => xs.Perm (m.map (·.2))) := by
  refine ⟨fun l Bd hY => ?_⟩
  show ACall _ _ [yieldV l, .ptr 0 0] ⟨3, [(0, .cells 62 [.mp 1]), (1, .map none (smap un m)), (2, .sem (Bd []))]⟩ _ _
  refine ACall.fin ?_
  refine ACall.walk (C := cfgV 15 3) (cfgVOk _ _) [] (fn := Go.Proofs.Try.f53) (by kernel_rfl) (by kernel_rfl) rfl (by kernel_rfl) (by kernel_rfl) rfl rfl ?_
  (conv => whnf); repeat ((first | (refine And.intro ?_ ?_; (focus ((repeat' (first | exact trivial | refine And.intro rfl ?_)); done))) | (refine And.intro ?_ ?_; (focus (first | omega | (dsimp -iota only; omega) | (simp -iota; omega) | (simp -iota; done) | decide)))); conv => whnf)
  refine AWP.loop (X := VS m) (fun x => [(0, yieldV l), (6, .ptr 3 0)]) (fun x => ⟨4, [(0, .cells 62 [.mp 1]), (1, .mapit none (smap un m) x.left 3 none), (2, .sem (Bd x.pre))]⟩) (fun x => x.left.length) (⟨(smap un m).map (·.1), [], by rw [lf_all]; exact List.Perm.refl _⟩) ?_ fun x => AWP.go (S := []) (cfgVOk _ _) (.of_eq (by kernel_rfl)) ?_
  · exact Ent.mk' [some 0, some 1, some 2, some 3] (by kernel_rfl) (by repeat' first | exact trivial | refine And.intro (AVE.refl _) ?_ | refine And.intro (AVE.int (by first | rfl | omega | (dsimp only; omega) | (simp -iota; omega) | (simp -iota; done))) ?_ | refine And.intro (AVE.bool (by assumption)) ?_ | refine And.intro (AVE.len (by first | rfl | omega | (dsimp only; omega) | (simp -iota; omega) | (simp -iota; done))) ?_) (by repeat' (first | exact trivial | refine ⟨⟨_, rfl, ChE.refl _⟩, ?_⟩))
  · obtain ⟨left, pre, hx⟩ := x
    (conv => whnf); repeat ((first | (refine And.intro ?_ ?_; (focus ((repeat' (first | exact trivial | refine And.intro rfl ?_)); done))) | (refine And.intro ?_ ?_; (focus (first | omega | (dsimp -iota only; omega) | (simp -iota; omega) | (simp -iota; done) | decide)))); conv => whnf)
    refine ⟨fun p hp hl => ?_, fun hnone => ?_⟩
    · obtain ⟨q, hq, rfl⟩ := List.mem_map.1 hp
      obtain ⟨k, n⟩ := q
      have ht : (lf m left).Perm ((k, n) :: lf m (left.filter fun j => decide (j ≠ MK.s k))) := lf_take hm hq hl
      have hxn : (pre ++ [n] ++ (lf m (left.filter fun j => decide (j ≠ MK.s k))).map (·.2)).Perm (m.map (·.2)) := by
        refine List.Perm.trans ?_ hx
        rw [List.append_assoc]
        exact List.Perm.append_left pre (ht.map fun p : List UInt8 × Nat => p.2).symm
      have hlen : pre.length < m.length := by
        have := hxn.length_eq
        simp only [List.length_append, List.length_map, List.length_singleton] at this
        omega
      (conv => whnf); repeat ((first | (refine And.intro ?_ ?_; (focus ((repeat' (first | exact trivial | refine And.intro rfl ?_)); done))) | (refine And.intro ?_ ?_; (focus (first | omega | (dsimp -iota only; omega) | (simp -iota; omega) | (simp -iota; done) | decide)))); conv => whnf)
      refine YCall.useN 2 (hY pre n hlen) (by kernel_rfl) rfl (by repeat' first | exact trivial | refine ⟨rfl, ?_⟩) ?_
      (conv => whnf); repeat ((first | (refine And.intro ?_ ?_; (focus ((repeat' (first | exact trivial | refine And.intro rfl ?_)); done))) | (refine And.intro ?_ ?_; (focus (first | omega | (dsimp -iota only; omega) | (simp -iota; omega) | (simp -iota; done) | decide)))); conv => whnf)
      refine ⟨⟨left.filter fun j => decide (j ≠ MK.s k), pre ++ [n], hxn⟩, Ent.mk' [some 0, some 1, some 2, some 3] (by kernel_rfl) (by repeat' first | exact trivial | refine And.intro (AVE.refl _) ?_ | refine And.intro (AVE.int (by first | rfl | omega | (dsimp only; omega) | (simp -iota; omega) | (simp -iota; done))) ?_ | refine And.intro (AVE.bool (by assumption)) ?_ | refine And.intro (AVE.len (by first | rfl | omega | (dsimp only; omega) | (simp -iota; omega) | (simp -iota; done))) ?_) ?_, ?_⟩
      · exact ⟨⟨_, rfl, ChE.refl _⟩, ⟨_, rfl, ChE.stand⟩, ⟨_, rfl, ChE.refl _⟩, trivial⟩
      · exact List.length_filter_lt_length_iff_exists.2 ⟨MK.s k, hl, by simp⟩
    · have hz : lf m left = [] := by
        unfold lf
        rw [List.filter_eq_nil_iff]
        intro p hp
        have := hnone (MK.s p.1, un p.2) (List.mem_map_of_mem (f := fun p : List UInt8 × Nat => (MK.s p.1, un p.2)) hp)
        simpa using this
      have hxs : pre.Perm (m.map (·.2)) := by rw [hz] at hx; simpa using hx
      (conv => whnf); repeat ((first | (refine And.intro ?_ ?_; (focus ((repeat' (first | exact trivial | refine And.intro rfl ?_)); done))) | (refine And.intro ?_ ?_; (focus (first | omega | (dsimp -iota only; omega) | (simp -iota; omega) | (simp -iota; done) | decide)))); conv => whnf)
      refine ⟨_, _, Ent.mk' (e' := [(0, AV.tup [])]) (H' := ⟨3, (nmH m).ch ++ [(2, .sem (Bd pre))]⟩) [some 0, some 1, some 2] (by kernel_rfl) ⟨AVE.refl _, trivial⟩ ?_, pre, 3, hxs, rfl⟩
      (repeat' first | exact trivial | refine ⟨⟨_, rfl, ChE.refl _⟩, ?_⟩)
theorem uF_push {D : Array Nat} {n x : Nat} {g : Nat → List IV} (hn : D.size = n) (hg : g 0 = [un x]) : ChE (.rowc 25 1 (n + 1) fun j => if j < n then uF D j else g (j - n)) (.rowc 25 1 (D.push x).size (uF (D.push x))) := by
  refine ChE.row (by simp [hn]) fun j hj => ?_
  rw [Array.size_push, hn] at hj
  unfold uF
  by_cases h : j < n
  · simp only [if_pos h]
    rw [getElem!_pos D j (by omega), getElem!_pos (D.push x) j (by simp; omega), Array.getElem_push_lt]
  · have : j = n := by omega
    subst this
    simp only [if_neg h, Nat.sub_self]
    rw [hg, getElem!_pos (D.push x) j (by simp; omega)]
    subst hn
    simp [un]
def apD (D : Array Nat) (l : List Nat) : Array Nat := D ++ l.toArray
theorem apD_push (D : Array Nat) (l : List Nat) (x : Nat) : (apD D l).push x = apD D (l ++ [x]) := by simp [apD]
theorem apD_size (D : Array Nat) (l : List Nat) : (apD D l).size = D.size + l.length := by simp [apD]
/-- Memory of the rounds: the row, and the cell of the slice. -/
@[reducible] def apH (D : Array Nat) (l : List Nat) : AH := ⟨5, [(3, .cells 39 [.row 4 1 0 (apD D l).size]), (4, .rowc 25 1 (apD D l).size (uF (apD D l)))]⟩
theorem apD_nil (D : Array Nat) : apD D [] = D := by simp [apD]
theorem appendSeq_ok (m : NM) (hm : (m.map (·.1)).Nodup) (D : Array Nat) (hD : D.size + m.length ≤ 1000000) : AFn Go.Proofs.Try.prog 36 [.row 0 1 0 D.size, .fnc (.func 53) [] [.ptr 1 0]] ⟨3, [(0, .rowc 25 1 D.size (uF D)), (1, .cells 62 [.mp 2]), (2, .map none (smap un m))]⟩
    (fun x : { l : List Nat // l.Perm (m.map (·.2)) } => .row 3 1 0 (apD D x.1).size) (fun x => ⟨4, [(1, .cells 62 [.mp 2]), (2, .map none (smap un m)), (3, .rowc 25 1 (apD D x.1).size (uF (apD D x.1)))]⟩) := by
  refine ACall.fin ?_
  refine ACall.walk (C := cfgV 13 3) (cfgVOk _ _) [] (fn := Go.Proofs.Try.f36) (by kernel_rfl) (by kernel_rfl) rfl (by kernel_rfl) (by kernel_rfl) rfl rfl ?_
  (conv => whnf); repeat ((first | (refine And.intro ?_ ?_; (focus ((repeat' (first | exact trivial | refine And.intro rfl ?_)); done))) | (refine And.intro ?_ ?_; (focus (first | omega | (dsimp -iota only; omega) | (simp -iota; omega) | (simp -iota; done) | decide)))); conv => whnf)
  refine AWP.rangeN rfl [1, 2] (fun n : Nat => [un n]) (values_seq m hm) rfl (fun _ => rfl) (apH D) [(1, .cells 62 [.mp 2]), (2, .map none (smap un m))] (fun _ => Nat.le_of_ble_eq_true rfl) ?_ ?_ ?_ (fun _ => by kernel_rfl) (fun _ => rfl) (fun _ => by repeat' first | exact trivial | refine ⟨rfl, ?_⟩) (fun _ _ _ => rfl) (fun l pre a ha => ?_) (fun xs hxs => ?_)
  · intro xs p hp r hr
    simp only [List.mem_cons, List.not_mem_nil, or_false] at hp hr
    rcases hp with rfl | rfl <;> rcases hr with rfl | rfl <;> simp only [ne_eq] <;> omega
  · intro p hp
    simp only [List.mem_cons, List.not_mem_nil, or_false] at hp
    rcases hp with rfl | rfl <;> exact ⟨rfl, rfl⟩
  · unfold apH
    rw [apD_nil]
    exact HEnt.renew (H := ⟨4, [(0, .rowc 25 1 D.size (uF D)), (3, .cells 39 [.row 0 1 0 D.size])]⟩) 0 (.rowc 25 1 D.size (uF D)) rfl
  · refine AWP.round (cfgVOk' _ _ _) [] rfl rfl ?_
    have hsz := apD_size D pre
    unfold apH
    rw [← apD_push D pre a]
    generalize apD D pre = E at *
    (conv => whnf); repeat ((first | (refine And.intro ?_ ?_; (focus ((repeat' (first | exact trivial | refine And.intro rfl ?_)); done))) | (refine And.intro ?_ ?_; (focus (first | omega | (dsimp -iota only; omega) | (simp -iota; omega) | (simp -iota; done) | decide)))); conv => whnf)
    refine Ent.mk' (e' := []) (H' := ⟨5, [(3, .cells 39 [.row 4 1 0 (E.push a).size]), (4, .rowc 25 1 (E.push a).size (uF (E.push a)))]⟩) [some 0, some 1, some 2, some 3, some 6] (by kernel_rfl) trivial ?_
    refine ⟨⟨_, rfl, ChE.cells ⟨AVE.len (by simp), rfl⟩⟩, ⟨_, rfl, uF_push rfl rfl⟩, trivial⟩
  · generalize hE : apD D xs = E
    (conv => whnf); repeat ((first | (refine And.intro ?_ ?_; (focus ((repeat' (first | exact trivial | refine And.intro rfl ?_)); done))) | (refine And.intro ?_ ?_; (focus (first | omega | (dsimp -iota only; omega) | (simp -iota; omega) | (simp -iota; done) | decide)))); conv => whnf)
    rw [hE]
    refine ⟨_, _, Ent.mk' (e' := [(0, .row 3 1 0 E.size)]) (H' := ⟨4, [(1, .cells 62 [.mp 2]), (2, .map none (smap un m)), (3, .rowc 25 1 E.size (uF E))]⟩) [some 0, some 1, some 2, some 4] (by kernel_rfl) ⟨AVE.refl _, trivial⟩ ?_, ⟨xs, hxs⟩, by subst hE; rfl, by subst hE; rfl⟩
    (repeat' first | exact trivial | refine ⟨⟨_, rfl, ChE.refl _⟩, ?_⟩)
theorem values_ok (m : NM) : AFn Go.Proofs.Try.prog 35 [.mp 0] ⟨1, [(0, .map none (smap un m))]⟩ (fun _ : Unit => .fnc (.func 53) [] [.ptr 1 0]) (fun _ => ⟨2, [(0, .map none (smap un m)), (1, .cells 62 [.mp 0])]⟩) := by
  refine ACall.fin ?_
  refine ACall.walk (C := cfgV 4 1) (cfgVOk _ _) [] (fn := Go.Proofs.Try.f35) (by kernel_rfl) (by kernel_rfl) rfl (by kernel_rfl) (by kernel_rfl) rfl rfl ?_
  (conv => whnf); repeat ((first | (refine And.intro ?_ ?_; (focus ((repeat' (first | exact trivial | refine And.intro rfl ?_)); done))) | (refine And.intro ?_ ?_; (focus (first | omega | (dsimp -iota only; omega) | (simp -iota; omega) | (simp -iota; done) | decide)))); conv => whnf)
  refine ⟨_, _, Ent.mk' (e' := [(0, .fnc (.func 53) [] [.ptr 1 0])]) (H' := ⟨2, [(0, .map none (smap un m)), (1, .cells 62 [.mp 0])]⟩) [some 0, some 1] (by kernel_rfl) ?_ ?_, (), rfl, rfl⟩
  · exact ⟨AVE.refl _, trivial⟩
  · (repeat' first | exact trivial | refine ⟨⟨_, rfl, ChE.refl _⟩, ?_⟩)
theorem collect_ok (m : NM) (hm : (m.map (·.1)).Nodup) (hl : m.length ≤ 1000000) : AFn Go.Proofs.Try.prog 34 [.fnc (.func 53) [] [.ptr 0 0]] (nmH m)
    (fun x : { l : List Nat // l.Perm (m.map (·.2)) } => .row 2 1 0 (apD #[] x.1).size) (fun x => ⟨3, [(0, .cells 62 [.mp 1]), (1, .map none (smap un m)), (2, .rowc 25 1 (apD #[] x.1).size (uF (apD #[] x.1)))]⟩) := by
  refine ACall.fin ?_
  refine ACall.walk (C := cfgV 5 2) (cfgVOk _ _) [] (fn := Go.Proofs.Try.f34) (by kernel_rfl) (by kernel_rfl) rfl (by kernel_rfl) (by kernel_rfl) rfl rfl ?_
  (conv => whnf); repeat ((first | (refine And.intro ?_ ?_; (focus ((repeat' (first | exact trivial | refine And.intro rfl ?_)); done))) | (refine And.intro ?_ ?_; (focus (first | omega | (dsimp -iota only; omega) | (simp -iota; omega) | (simp -iota; done) | decide)))); conv => whnf)
  refine ACall.hent (HEnt.addNil 25 1 (uF #[])) (ACall.argsE [.row 2 1 0 0, .fnc (.func 53) [] [.ptr 0 0]] ⟨AVE.nil _ _, AVE.refl _, rfl⟩ ?_)
  refine AFn.use [2, 0, 1] (appendSeq_ok m hm #[] (by simpa using hl)) (by kernel_rfl) rfl (by repeat' first | exact trivial | refine ⟨rfl, ?_⟩) fun x => ?_
  refine ⟨_, HEnt.refl _, ?_⟩
  obtain ⟨l, hp⟩ := x
  (conv => whnf); repeat ((first | (refine And.intro ?_ ?_; (focus ((repeat' (first | exact trivial | refine And.intro rfl ?_)); done))) | (refine And.intro ?_ ?_; (focus (first | omega | (dsimp -iota only; omega) | (simp -iota; omega) | (simp -iota; done) | decide)))); conv => whnf)
  refine ⟨_, _, Ent.mk' (e' := [(0, .row 2 1 0 (apD #[] l).size)]) (H' := ⟨3, [(0, .cells 62 [.mp 1]), (1, .map none (smap un m)), (2, .rowc 25 1 (apD #[] l).size (uF (apD #[] l)))]⟩) [some 0, some 1, some 3] (by kernel_rfl) ?_ ?_, ⟨l, hp⟩, rfl, rfl⟩
  · exact ⟨AVE.refl _, trivial⟩
  · (repeat' first | exact trivial | refine ⟨⟨_, rfl, ChE.refl _⟩, ?_⟩)
end Go.Proofs.Yteeifedpabcehaa.Ax

namespace Go.Proofs.Yteeifedpabcehaa.Ax
open Go.RowKit Go.Maps Go.Sort Go.Shelf
set_option maxRecDepth 100000
noncomputable def cfgK (N b : Nat) : Cfg := { P := Go.Proofs.Try.prog, T := tt, wr := false, N := N, pure := [], base := b }
theorem cfgKOk (N b : Nat) : (cfgK N b).Ok := ⟨ttOk, ttBytes, by kernel_rfl⟩
theorem sortsIn (m : Nat) : AnyZ.SortsIn Try.prog Try.sortedN_ren Fence.wide m :=
  ⟨fun blk off cap ss W hH hblk hsz => callsIn_wide.2 (AnyM.slices_Sort_string Try.sortN blk off cap ss W hH hblk hsz),
   fun p cap W => callsIn_wide.2 (AnyM.slices_Sort_string_none Try.sortN p cap W)⟩
theorem hasBody {fn : Func} (h : fn.body.isNone = false) : ∃ c, fn.body = some c := by
  cases hb : fn.body with
  | none => rw [hb] at h; cases h
  | some c => exact ⟨c, rfl⟩
def mpH (T : Nat) (m : List (MK × IV)) : AH := ⟨2, [(0, .cells T [.mp 1]), (1, .map none m)]⟩
theorem sortedK {g : Nat} (T : Nat) (hfn : ∃ fn, Go.Proofs.Try.prog.funcs[g]? = some fn ∧ (fn.name == "runtime.NumGoroutine") = false ∧ fn.body.isNone = false)
    (hg : ∀ (Bm b nn : Nat) (D0 : DataW Value) (W : World), Bm < W.heap.size → W.cell? ⟨Bm, 0, none⟩ = some (.map (some b)) → W.ownsMap Go.Proofs.Try.prog 9 heldR b nn D0 → SeqGives Fence.wide 2 Go.Proofs.Try.prog g #[.pointer (some ⟨Bm, 0, none⟩)] encStr (fun ss => ss.Perm (strKeys D0)) (Maps.size D0) W)
    (m : List (MK × IV)) (hm : m.length ≤ 100000) (hl : ∀ x ∈ keysS m, x.length ≤ 9223372036854775807) :
    AFn Go.Proofs.Try.prog 29 [.fnc (.func g) [] [.ptr 0 0]] (mpH T m) (fun _ : Unit => .iv (strRow (sortS (keysS m)))) (fun _ => mpH T m) := by
  refine ⟨⟨_, Try.func29, by kernel_rfl, by kernel_rfl⟩, fun ρ ι w cargs _ hS hr => ?_⟩
  simp only [AV.Rs, AV.R] at hr
  obtain ⟨u, us, rfl, ⟨as0, cs0, rfl, rfl, u1, us1, rfl, ⟨hv, Bm, h1, h2, rfl⟩, rfl⟩, rfl⟩ := hr
  obtain ⟨hv', g1, b', vs, g2, g3, g4, g5⟩ := hS.hv (k := 0) (c := .cells T [.mp 1]) rfl
  rw [h1] at g1; injection g1 with g1; subst g1
  rw [h2] at g2; injection g2 with g2; subst g2
  simp only [AV.Rs, AV.R] at g5
  obtain ⟨u, us, rfl, ⟨hw, b, k1, k2, rfl⟩, rfl⟩ := g5
  obtain ⟨hw', q1, b', es, clock, q2, q3, q4, q5⟩ := hS.hv (k := 1) (c := .map none m) rfl
  rw [k1] at q1; injection q1 with q1; subst q1
  rw [k2] at q2; injection q2 with q2; subst q2
  obtain ⟨D0, o1, o2, o3⟩ := MapR.owns (P := Go.Proofs.Try.prog) Try.underlying9 q5 q4 (by simp only [maxLen]; omega) hl
  have hlt : Bm < w.heap.size := (Array.getElem?_eq_some_iff.1 g4).1
  have hseq := hg Bm b es.size D0 w hlt (by simp [World.cell?, g4]) o1
  have hC := callsIn_wide.1 (AnyZ.sorted_in Try.sortedN Fence.wide 5 trivial trivial trivial trivial rfl (by omega) (sortsIn _) (enters_of Try.func49 (by kernel_rfl) rfl) g #[.pointer (some ⟨Bm, 0, none⟩)] trivial (by obtain ⟨fn, e1, e2, e3⟩ := hfn; obtain ⟨c, hc⟩ := hasBody e3; exact enters_of e1 e2 hc) _ _ (by rw [o3]; simp only [maxLen]; omega) (by rw [o3]; omega) _ hseq)
  refine Calls.mono hC fun e w' ⟨v, ss, he, p1, p2, _, p4⟩ => ?_
  subst he
  have e2 : (ss.mergeSort fun x y => decide (x ≤ y)) = sortS (keysS m) := mergeSort_of_perm (p1.trans o2)
  have e3 : ss.length = (sortS (keysS m)).length := by rw [← e2, List.length_mergeSort]
  rw [e2, e3] at p2
  obtain ⟨ι', r1, r2, r3⟩ := own_row hS p4 p2
  exact ⟨_, _, ρ, ι', ⟨(), rfl, rfl⟩, r3, r1, r2⟩
theorem keys_smap {β : Type} (g : β → IV) (l : List (List UInt8 × β)) : keysS (smap g l) = l.map (·.1) := by
  unfold keysS smap
  rw [List.map_map]
  rfl
theorem sorted_ok (m : NM) (hm : m.length ≤ 100000) (hl : ∀ x ∈ m.map (·.1), x.length ≤ 9223372036854775807) : AFn Go.Proofs.Try.prog 29 [.fnc (.func 50) [] [.ptr 0 0]] ⟨2, [(0, .cells 62 [.mp 1]), (1, .map none (smap un m))]⟩ (fun _ : Unit => .iv (strRow (sortS (m.map (·.1))))) (fun _ => ⟨2, [(0, .cells 62 [.mp 1]), (1, .map none (smap un m))]⟩) := by
  have h := sortedK 62 ⟨_, Try.func50, by kernel_rfl, by kernel_rfl⟩ (fun Bm b nn D0 W a1 a2 a3 => AnyZ.keys_gives (ρ := Try.keysN_ren) { Try.keysN with } Fence.wide _ trivial rfl (by omega) Bm b nn D0 W a1 a2 a3) (smap un m) (by rw [smap_length]; exact hm) (by rw [keys_smap]; exact hl)
  rw [keys_smap] at h
  exact h
theorem keys_ok (m : NM) : AFn Go.Proofs.Try.prog 30 [.mp 0] ⟨1, [(0, .map none (smap un m))]⟩ (fun _ : Unit => .fnc (.func 50) [] [.ptr 1 0]) (fun _ => ⟨2, [(0, .map none (smap un m)), (1, .cells 62 [.mp 0])]⟩) := by
  refine ACall.fin ?_
  refine ACall.walk (C := cfgK 4 1) (cfgKOk _ _) [] (fn := Go.Proofs.Try.f30) (by kernel_rfl) (by kernel_rfl) rfl (by kernel_rfl) (by kernel_rfl) rfl rfl ?_
  (conv => whnf); repeat ((first | (refine And.intro ?_ ?_; (focus ((repeat' (first | exact trivial | refine And.intro rfl ?_)); done))) | (refine And.intro ?_ ?_; (focus (first | omega | (dsimp -iota only; omega) | (simp -iota; omega) | (simp -iota; done) | decide)))); conv => whnf)
  refine ⟨_, _, Ent.mk' (e' := [(0, .fnc (.func 50) [] [.ptr 1 0])]) (H' := ⟨2, [(0, .map none (smap un m)), (1, .cells 62 [.mp 0])]⟩) [some 0, some 1] (by kernel_rfl) ?_ ?_, (), rfl, rfl⟩
  · exact ⟨AVE.refl _, trivial⟩
  · (repeat' first | exact trivial | refine ⟨⟨_, rfl, ChE.refl _⟩, ?_⟩)
end Go.Proofs.Yteeifedpabcehaa.Ax
