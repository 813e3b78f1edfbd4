/-
  Folders: lists, what lives.
-/
import Derived.Test.YtgfkepebfaiepaaGreatDoorQm
import Derived.Test.YtgfkepebfaiepaaGreatDoorQt
import Derived.Test.YtgfkepebfaiepaaGreatDoorUa
import Derived.Test.YtgfkepebfaiepaaGreatDoorQz
import Derived.Test.YtgfkepebfaiepaaGreatDoorQb
namespace Go.Proofs.YtgfkepebfaiepaaGreatDoor.Ax
open Go.RowKit Go.Maps Go.Sort Go.Shelf
set_option maxRecDepth 100000
noncomputable def cfgK (N b : Nat) : Cfg := { P := Go.Proofs.Tryz.prog, T := tt, wr := false, N := N, pure := [], base := b }
theorem cfgKOk (N b : Nat) : (cfgK N b).Ok := ⟨ttOk, ttBytes, by kernel_rfl⟩
theorem sortsIn (m : Nat) : AnyZ.SortsIn Tryz.prog Tryz.sortedN_ren Fence.wide m :=
 ⟨fun blk off cap ss W hH hblk hsz => callsIn_wide.2 (AnyM.slices_Sort_string Tryz.sortN blk off cap ss W hH hblk hsz),
  fun p cap W => callsIn_wide.2 (AnyM.slices_Sort_string_none Tryz.sortN p cap W)⟩
theorem hasBody {fn : Func} (h : fn.body.isNone = false) : ∃ c, fn.body = some c := by
 cases hb : fn.body with
 | none => rw [hb] at h; cases h
 | some c => exact ⟨c, rfl⟩
def mpH (T : Nat) (m : List (MK × IV)) : AH := ⟨2, [(0, .cells T [.mp 1]), (1, .map none m)]⟩
theorem sortedK {g : Nat} (T : Nat) (hfn : ∃ fn, Go.Proofs.Tryz.prog.funcs[g]? = some fn ∧ (fn.name == "runtime.NumGoroutine") = false ∧ fn.body.isNone = false)
 (hg : ∀ (Bm b nn : Nat) (D0 : DataW Value) (W : World), Bm < W.heap.size → W.cell? ⟨Bm, 0, none⟩ = some (.map (some b)) → W.ownsMap Go.Proofs.Tryz.prog 9 heldR b nn D0 → SeqGives Fence.wide 2 Go.Proofs.Tryz.prog g #[.pointer (some ⟨Bm, 0, none⟩)] encStr (fun ss => ss.Perm (strKeys D0)) (Maps.size D0) W)
 (m : List (MK × IV)) (hm : m.length ≤ 100000) (hl : ∀ x ∈ keysS m, x.length ≤ 9223372036854775807) :
 AFn Go.Proofs.Tryz.prog 150 [.fnc (.func g) [] [.ptr 0 0]] (mpH T m) (fun _ : Unit => .iv (strRow (sortS (keysS m)))) (fun _ => mpH T m) := by
 refine ⟨⟨_, Tryz.func150, by kernel_rfl, by kernel_rfl⟩, fun ρ ι w cargs _ hS hr => ?_⟩
 simp only [AV.Rs, AV.R] at hr
 obtain ⟨u, us, rfl, ⟨as0, cs0, rfl, rfl, u1, us1, rfl, ⟨hv, Bm, h1, h2, rfl⟩, rfl⟩, rfl⟩ := hr
 obtain ⟨hv', g1, b', vs, g2, g3, g4, g5⟩ := hS.hv (k := 0) (c := .cells T [.mp 1]) rfl
 rw [h1] at g1; injection g1 with g1; subst g1
 rw [h2] at g2; injection g2 with g2; subst g2
 simp only [AV.Rs, AV.R] at g5
 obtain ⟨u, us, rfl, ⟨hw, b, k1, k2, rfl⟩, rfl⟩ := g5
 obtain ⟨hw', q1, b', es, clock, q2, q3, q4, q5⟩ := hS.hv (k := 1) (c := .map none m) rfl
 rw [k1] at q1; injection q1 with q1; subst q1
 rw [k2] at q2; injection q2 with q2; subst q2
 obtain ⟨D0, o1, o2, o3⟩ := MapR.owns (P := Go.Proofs.Tryz.prog) Tryz.underlying9 q5 q4 (by simp only [maxLen]; omega) hl
 have hlt : Bm < w.heap.size := (Array.getElem?_eq_some_iff.1 g4).1
 have hseq := hg Bm b es.size D0 w hlt (by simp [World.cell?, g4]) o1
 have hC := callsIn_wide.1 (AnyZ.sorted_in Tryz.sortedN Fence.wide 5 trivial trivial trivial trivial rfl (by omega) (sortsIn _) (enters_of Tryz.func214 (by kernel_rfl) rfl) g #[.pointer (some ⟨Bm, 0, none⟩)] trivial (by obtain ⟨fn, e1, e2, e3⟩ := hfn; obtain ⟨c, hc⟩ := hasBody e3; exact enters_of e1 e2 hc) _ _ (by rw [o3]; simp only [maxLen]; omega) (by rw [o3]; omega) _ hseq)
 refine Calls.mono hC fun e w' ⟨v, ss, he, p1, p2, _, p4⟩ => ?_
 subst he
 have e2 : (ss.mergeSort fun x y => decide (x ≤ y)) = sortS (keysS m) := mergeSort_of_perm (p1.trans o2)
 have e3 : ss.length = (sortS (keysS m)).length := by rw [← e2, List.length_mergeSort]
 rw [e2, e3] at p2
 obtain ⟨ι', r1, r2, r3⟩ := own_row hS p4 p2
 exact ⟨_, _, ρ, ι', ⟨(), rfl, rfl⟩, r3, r1, r2⟩
theorem keys_smap {β : Type} (g : β → IV) (l : List (List UInt8 × β)) : keysS (smap g l) = l.map (·.1) := by
 unfold keysS smap
 rw [List.map_map]
 rfl
theorem sorted_ok (m : NM) (hm : m.length ≤ 100000) (hl : ∀ x ∈ m.map (·.1), x.length ≤ 9223372036854775807) : AFn Go.Proofs.Tryz.prog 150 [.fnc (.func 215) [] [.ptr 0 0]] ⟨2, [(0, .cells 220 [.mp 1]), (1, .map none (smap un m))]⟩ (fun _ : Unit => .iv (strRow (sortS (m.map (·.1))))) (fun _ => ⟨2, [(0, .cells 220 [.mp 1]), (1, .map none (smap un m))]⟩) := by
 have h := sortedK 220 ⟨_, Tryz.func215, by kernel_rfl, by kernel_rfl⟩ (fun Bm b nn D0 W a1 a2 a3 => AnyZ.keys_gives (ρ := Tryz.keysN_ren) { Tryz.keysN with } Fence.wide _ trivial rfl (by omega) Bm b nn D0 W a1 a2 a3) (smap un m) (by rw [smap_length]; exact hm) (by rw [keys_smap]; exact hl)
 rw [keys_smap] at h
 exact h
theorem keys_ok (m : NM) : AFn Go.Proofs.Tryz.prog 151 [.mp 0] ⟨1, [(0, .map none (smap un m))]⟩ (fun _ : Unit => .fnc (.func 215) [] [.ptr 1 0]) (fun _ => ⟨2, [(0, .map none (smap un m)), (1, .cells 220 [.mp 0])]⟩) := by
 refine ACall.fin ?_
 refine ACall.walk (C := cfgK 4 1) (cfgKOk _ _) [] (fn := Go.Proofs.Tryz.f151) (by kernel_rfl) (by kernel_rfl) rfl (by kernel_rfl) (by kernel_rfl) rfl rfl ?_
 refine goA ?_
 refine ⟨_, _, Ent.mk' (e' := [(0, .fnc (.func 215) [] [.ptr 1 0])]) (H' := ⟨2, [(0, .map none (smap un m)), (1, .cells 220 [.mp 0])]⟩) [some 0, some 1] (by kernel_rfl) ?_ ?_, (), rfl, rfl⟩
 ·exact ⟨AVE.refl _, trivial⟩
 ·exact subC
end Go.Proofs.YtgfkepebfaiepaaGreatDoor.Ax

namespace Go.Proofs.YtgfkepebfaiepaaGreatDoor.Ax
open Go.RowKit
set_option maxRecDepth 100000
abbrev EN := List UInt8 × Nat
def enF (l : List EN) (i : Nat) : List IV := [.str (l.getD i ([], 0)).1, un (l.getD i ([], 0)).2]
def lsN (m : NM) : List EN := (sortS (m.map (·.1))).map fun k => (k, (afind m k).getD 0)
theorem lsN_length (m : NM) : (lsN m).length = m.length := by simp [lsN, sortS_length]
noncomputable def cfgL (N b : Nat) : Cfg := { P := Go.Proofs.Tryz.prog, T := tt, wr := false, N := N, pure := [], base := b, frz := fun op => match op with | .buildSlice .. => true | _ => false }
theorem cfgLOk (N b : Nat) : (cfgL N b).Ok := ⟨ttOk, ttBytes, by kernel_rfl⟩
structure NOk (m : NM) : Prop where
 len : m.length ≤ 1000
 key : ∀ p ∈ m, p.1.length ≤ 32
 nd : (m.map (·.1)).Nodup
section
variable (f : FD)
theorem list_in (hm : NOk f.now) : AFn Go.Proofs.Tryz.prog 79 [.ptr 0 0] f.H (fun _ : Unit => .iv (.sl 2 (lsN f.now).length (enF (lsN f.now)))) (fun _ => f.H) := by
 have hlen := hm.len
 have hll := lsN_length f.now
 have hsl : (sortS (f.now.map (·.1))).length = f.now.length := by simp [sortS_length]
 have hget : ∀ i, i < f.now.length → (lsN f.now).getD i ([], 0) = ((sortS (f.now.map (·.1))).getD i [], (afind f.now ((sortS (f.now.map (·.1))).getD i [])).getD 0) := fun i hi => by
  have h1 : i < (sortS (f.now.map (·.1))).length := by omega
  simp only [lsN, List.getD, List.getElem?_map, List.getElem?_eq_getElem h1, Option.map_some, Option.getD_some]
 refine ACall.fin ?_
 refine ACall.walk (C := cfgL 32 4) (cfgLOk _ _) [] (fn := Go.Proofs.Tryz.f79) (by kernel_rfl) (by kernel_rfl) rfl (by kernel_rfl) (by kernel_rfl) rfl rfl ?_
 refine goA ?_
 refine AFn.useA [0, 1, 2, 3] (none_in f) fun _ => ?_
 refine goA ?_
 refine AFn.useA [2] (keys_ok f.now) fun _ => ?_
 refine goA ?_
 refine AFn.useA [4, 2] (sorted_ok f.now (by omega) (by intro x hx; obtain ⟨p, hp, rfl⟩ := List.mem_map.1 hx; have := hm.key p hp; omega)) fun _ => ?_
 refine goA ?_
 refine AWP.loop (X := { i : Nat // i ≤ f.now.length }) (fun i => [(0, .ptr 0 0), (3, .row 4 2 0 i.1), (13, .iv (strRow (sortS (f.now.map (·.1))))), (14, AV.int .i64 f.now.length), (15, AV.int .i64 i.1)]) (fun i => ⟨5, f.H.ch ++ [(4, .rowc 159 2 i.1 (enF (lsN f.now)))]⟩) (fun i => f.now.length - i.1) (⟨0, Nat.zero_le _⟩) ?_ fun i => AWP.go (S := []) (cfgLOk _ _) (.of_eq (by kernel_rfl)) ?_
 ·refine Ent.mk' [some 0, some 1, some 2, some 3, none] (by kernel_rfl) ?_ ?_
  ·exact ⟨AVE.refl _, AVE.nil _ _, AVE.refl _, AVE.int (by rw [hsl]), AVE.refl _, trivial⟩
  ·exact ⟨⟨_, rfl, ChE.refl _⟩, ⟨_, rfl, ChE.refl _⟩, ⟨_, rfl, ChE.refl _⟩, ⟨_, rfl, ChE.refl _⟩, trivial, trivial⟩
 ·obtain ⟨i, hi⟩ := i
  refine goA ?_
  refine ifdA (fun h1 => ?_) (fun h1 => ?_) <;> (try dsimp only at h1)
  ·refine goA ?_
   rw [mfind_smap]
   refine ⟨fun x hx => ?_, fun hx => ?_⟩
   ·obtain ⟨z, hz, hz2⟩ := Option.map_eq_some_iff.1 hx
    obtain ⟨n, hn, rfl⟩ := Option.map_eq_some_iff.1 hz
    subst hz2
    refine goA ?_
    refine ⟨⟨i + 1, by omega⟩, Ent.mkC [some 0, some 1, some 2, some 3, some 5] ?_, ?_⟩
    ·exact ⟨⟨_, rfl, ChE.refl _⟩, ⟨_, rfl, ChE.refl _⟩, ⟨_, rfl, ChE.refl _⟩, ⟨_, rfl, ChE.refl _⟩, ⟨_, rfl, ChE.push (fun _ _ => rfl) (by simp only [enF]; rw [hget i (by omega)]; simp only [Int.toNat_natCast] at hn ⊢; rw [hn]; exact IVEs.refl _)⟩, trivial⟩
    ·show f.now.length - (i + 1) < f.now.length - i
     omega
   ·have hx := Option.map_eq_none_iff.1 (Option.map_eq_none_iff.1 hx)
    refine goA ?_
    refine ⟨⟨i + 1, by omega⟩, Ent.mkC [some 0, some 1, some 2, some 3, some 5] ?_, ?_⟩
    ·exact ⟨⟨_, rfl, ChE.refl _⟩, ⟨_, rfl, ChE.refl _⟩, ⟨_, rfl, ChE.refl _⟩, ⟨_, rfl, ChE.refl _⟩, ⟨_, rfl, ChE.push (fun _ _ => rfl) (by simp only [enF]; rw [hget i (by omega)]; simp only [Int.toNat_natCast] at hx ⊢; rw [hx]; exact IVEs.refl _)⟩, trivial⟩
    ·show f.now.length - (i + 1) < f.now.length - i
     omega
  ·refine goA ?_
   have hi' : i = (lsN f.now).length := by omega
   subst hi'
   refine ⟨_, _, (Ent.freeze 4 _ rfl rfl (e' := [(0, .iv (.sl 2 (lsN f.now).length (enF (lsN f.now))))]) ?_).trans (Ent.mk' (e' := [(0, .iv (.sl 2 (lsN f.now).length (enF (lsN f.now))))]) (H' := f.H) [some 0, some 1, some 2, some 3] (by kernel_rfl) ⟨AVE.refl _, trivial⟩ ?_), (), rfl, rfl⟩
   ·exact ⟨AVF.sl (Nat.le_refl _), trivial⟩
   ·exact subC
theorem list_ok (hm : NOk f.now) : AFn Go.Proofs.Tryz.prog 79 [.ptr 0 0] (one f.H) (fun _ : Unit => .iv (.sl 2 (lsN f.now).length (enF (lsN f.now)))) (fun _ => one f.H) := AFn.shut (list_in f hm) rfl rfl (fun _ => ⟨by kernel_rfl, by kernel_rfl⟩) (fun _ => (by repeat' first | exact trivial | refine ⟨rfl, ?_⟩)) (fun _ => rfl)
end
end Go.Proofs.YtgfkepebfaiepaaGreatDoor.Ax

namespace Go.Proofs.YtgfkepebfaiepaaGreatDoor.Ax
open Go.RowKit
set_option maxRecDepth 100000
@[reducible] def nmH (m : NM) : AH := ⟨2, [(0, .cells 220 [.mp 1]), (1, .map none (smap un m))]⟩
noncomputable def cfgV (N b : Nat) : Cfg := { P := Go.Proofs.Tryz.prog, T := tt, wr := false, N := N, pure := [], base := b }
theorem cfgVOk (N b : Nat) : (cfgV N b).Ok := ⟨ttOk, ttBytes, by kernel_rfl⟩
theorem ChE.stand {kk : Option IntKind} {m : List (MK × IV)} {left : List MK} {i : Nat} {la : Option (MK × IV)} : ChE (.mapit kk m left i la) (.mapit kk m left i none) := ⟨fun ρ ι hv w h => by
 obtain ⟨b, it, hi, es, clock, since, seen, last, h1, h2, h3, h4, h5, h6, h7, h8, h9, h10, h11, _⟩ := h
 exact ⟨b, it, hi, es, clock, since, seen, last, h1, h2, h3, h4, h5, h6, h7, h8, h9, h10, h11, fun p hp => by cases hp⟩⟩
theorem cfgVOk' (N b l : Nat) : ({ cfgV N 3 with ro := some l, base := b } : Cfg).Ok := ⟨ttOk, ttBytes, by kernel_rfl⟩
def lf (m : NM) (left : List MK) : NM := m.filter fun p => decide (MK.s p.1 ∈ left)
theorem lf_take : ∀ {m : NM} {left : List MK} {k : List UInt8} {n : Nat}, (m.map (·.1)).Nodup → (k, n) ∈ m → MK.s k ∈ left → (lf m left).Perm ((k, n) :: lf m (left.filter fun j => decide (j ≠ MK.s k)))
 | [], _, _, _, _, h, _ => by cases h
 | (x, y) :: m, left, k, n, hn, hm, hl => by
  simp only [List.map_cons, List.nodup_cons] at hn
  have out : ∀ p ∈ m, p.1 ≠ k → (MK.s p.1 ∈ left ↔ MK.s p.1 ∈ left.filter fun j => decide (j ≠ MK.s k)) := fun p _ hp => by simp [hp]
  rcases List.mem_cons.1 hm with e | hm
  ·injection e with e1 e2
   subst e1 e2
   unfold lf
   rw [List.filter_cons_of_pos (by simpa using hl), List.filter_cons_of_neg (by simp)]
   refine List.Perm.cons _ (List.Perm.of_eq (List.filter_congr fun p hp => ?_))
   rw [decide_eq_decide]
   exact out p hp fun e => hn.1 (List.mem_map.2 ⟨p, hp, e⟩)
  ·have hxk : x ≠ k := fun e => hn.1 (List.mem_map.2 ⟨(k, n), hm, e.symm⟩)
   have ih := lf_take hn.2 hm hl
   unfold lf at ih ⊢
   by_cases h : MK.s x ∈ left
   ·have h2 : MK.s x ∈ left.filter fun j => decide (j ≠ MK.s k) := by simp [h, hxk]
    rw [List.filter_cons_of_pos (by simpa using h), List.filter_cons_of_pos (by simpa using h2)]
    exact (List.Perm.cons _ ih).trans (List.Perm.swap ..)
   ·have h2 : ¬ MK.s x ∈ left.filter fun j => decide (j ≠ MK.s k) := by simp [h]
    rw [List.filter_cons_of_neg (by simpa using h), List.filter_cons_of_neg (by simpa using h2)]
    exact ih
theorem lf_all (m : NM) : lf m ((smap un m).map (·.1)) = m := by
 unfold lf
 rw [List.filter_eq_self]
 intro p hp
 rw [decide_eq_true_eq]
 exact List.mem_map.2 ⟨(MK.s p.1, un p.2), List.mem_map_of_mem (f := fun p : List UInt8 × Nat => (MK.s p.1, un p.2)) hp, rfl⟩
structure VS (m : NM) where
 left : List MK
 pre : List Nat
 h : (pre ++ (lf m left).map (·.2)).Perm (m.map (·.2))
theorem values_seq (m : NM) (hm : (m.map (·.1)).Nodup) : SeqN Go.Proofs.Tryz.prog 236 [] [.ptr 0 0] (nmH m) (fun n : Nat => [un n]) (fun pre _ => pre.length < m.length) (fun xs => xs.Perm (m.map (·.2))) := by
 refine ⟨fun l Bd hY => ?_⟩
 show ACall _ _ [yieldV l, .ptr 0 0] ⟨3, [(0, .cells 220 [.mp 1]), (1, .map none (smap un m)), (2, .sem (Bd []))]⟩ _ _
 refine ACall.fin ?_
 refine ACall.walk (C := cfgV 15 3) (cfgVOk _ _) [] (fn := Go.Proofs.Tryz.f236) (by kernel_rfl) (by kernel_rfl) rfl (by kernel_rfl) (by kernel_rfl) rfl rfl ?_
 refine goA ?_
 refine AWP.loop (X := VS m) (fun x => [(0, yieldV l), (6, .ptr 3 0)]) (fun x => ⟨4, [(0, .cells 220 [.mp 1]), (1, .mapit none (smap un m) x.left 3 none), (2, .sem (Bd x.pre))]⟩) (fun x => x.left.length) (⟨(smap un m).map (·.1), [], by rw [lf_all]; exact List.Perm.refl _⟩) ?_ fun x => AWP.go (S := []) (cfgVOk _ _) (.of_eq (by kernel_rfl)) ?_
 ·exact Ent.mkA [some 0, some 1, some 2, some 3]
 ·obtain ⟨left, pre, hx⟩ := x
  refine goA ?_
  refine ⟨fun p hp hl => ?_, fun hnone => ?_⟩
  ·obtain ⟨q, hq, rfl⟩ := List.mem_map.1 hp
   obtain ⟨k, n⟩ := q
   have ht : (lf m left).Perm ((k, n) :: lf m (left.filter fun j => decide (j ≠ MK.s k))) := lf_take hm hq hl
   have hxn : (pre ++ [n] ++ (lf m (left.filter fun j => decide (j ≠ MK.s k))).map (·.2)).Perm (m.map (·.2)) := by
    refine List.Perm.trans ?_ hx
    rw [List.append_assoc]
    exact List.Perm.append_left pre (ht.map fun p : List UInt8 × Nat => p.2).symm
   have hlen : pre.length < m.length := by
    have := hxn.length_eq
    simp only [List.length_append, List.length_map, List.length_singleton] at this
    omega
   refine goA ?_
   refine YCall.useN 2 (hY pre n hlen) (by kernel_rfl) rfl (by repeat' first | exact trivial | refine ⟨rfl, ?_⟩) ?_
   refine goA ?_
   refine ⟨⟨left.filter fun j => decide (j ≠ MK.s k), pre ++ [n], hxn⟩, Ent.mkC [some 0, some 1, some 2, some 3] ?_, ?_⟩
   ·exact ⟨⟨_, rfl, ChE.refl _⟩, ⟨_, rfl, ChE.stand⟩, ⟨_, rfl, ChE.refl _⟩, trivial⟩
   ·exact List.length_filter_lt_length_iff_exists.2 ⟨MK.s k, hl, by simp⟩
  ·have hz : lf m left = [] := by
    unfold lf
    rw [List.filter_eq_nil_iff]
    intro p hp
    have := hnone (MK.s p.1, un p.2) (List.mem_map_of_mem (f := fun p : List UInt8 × Nat => (MK.s p.1, un p.2)) hp)
    simpa using this
   have hxs : pre.Perm (m.map (·.2)) := by rw [hz] at hx; simpa using hx
   refine goA ?_
   refine ⟨_, _, Ent.mk' (e' := [(0, AV.tup [])]) (H' := ⟨3, (nmH m).ch ++ [(2, .sem (Bd pre))]⟩) [some 0, some 1, some 2] (by kernel_rfl) ⟨AVE.refl _, trivial⟩ ?_, pre, 3, hxs, rfl⟩
   exact subC
theorem uF_push {D : Array Nat} {n x : Nat} {g : Nat → List IV} (hn : D.size = n) (hg : g 0 = [un x]) : ChE (.rowc 38 1 (n + 1) fun j => if j < n then uF D j else g (j - n)) (.rowc 38 1 (D.push x).size (uF (D.push x))) := by
 refine ChE.row (by simp [hn]) fun j hj => ?_
 rw [Array.size_push, hn] at hj
 unfold uF
 by_cases h : j < n
 ·simp only [if_pos h]
  rw [getElem!_pos D j (by omega), getElem!_pos (D.push x) j (by simp; omega), Array.getElem_push_lt]
 ·have : j = n := by omega
  subst this
  simp only [if_neg h, Nat.sub_self]
  rw [hg, getElem!_pos (D.push x) j (by simp; omega)]
  subst hn
  simp [un]
def apD (D : Array Nat) (l : List Nat) : Array Nat := D ++ l.toArray
theorem apD_push (D : Array Nat) (l : List Nat) (x : Nat) : (apD D l).push x = apD D (l ++ [x]) := by simp [apD]
theorem apD_size (D : Array Nat) (l : List Nat) : (apD D l).size = D.size + l.length := by simp [apD]
@[reducible] def apH (D : Array Nat) (l : List Nat) : AH := ⟨5, [(3, .cells 180 [.row 4 1 0 (apD D l).size]), (4, .rowc 38 1 (apD D l).size (uF (apD D l)))]⟩
theorem apD_nil (D : Array Nat) : apD D [] = D := by simp [apD]
theorem appendSeq_ok (m : NM) (hm : (m.map (·.1)).Nodup) (D : Array Nat) (hD : D.size + m.length ≤ 1000000) : AFn Go.Proofs.Tryz.prog 168 [.row 0 1 0 D.size, .fnc (.func 236) [] [.ptr 1 0]] ⟨3, [(0, .rowc 38 1 D.size (uF D)), (1, .cells 220 [.mp 2]), (2, .map none (smap un m))]⟩
 (fun x : { l : List Nat // l.Perm (m.map (·.2)) } => .row 3 1 0 (apD D x.1).size) (fun x => ⟨4, [(1, .cells 220 [.mp 2]), (2, .map none (smap un m)), (3, .rowc 38 1 (apD D x.1).size (uF (apD D x.1)))]⟩) := by
 refine ACall.fin ?_
 refine ACall.walk (C := cfgV 13 3) (cfgVOk _ _) [] (fn := Go.Proofs.Tryz.f168) (by kernel_rfl) (by kernel_rfl) rfl (by kernel_rfl) (by kernel_rfl) rfl rfl ?_
 refine goA ?_
 refine AWP.rangeN rfl [1, 2] (fun n : Nat => [un n]) (values_seq m hm) rfl (fun _ => rfl) (apH D) [(1, .cells 220 [.mp 2]), (2, .map none (smap un m))] (fun _ => Nat.le_of_ble_eq_true rfl) ?_ ?_ ?_ (fun _ => by kernel_rfl) (fun _ => rfl) (fun _ => by repeat' first | exact trivial | refine ⟨rfl, ?_⟩) (fun _ _ _ => rfl) (fun l pre a ha => ?_) (fun xs hxs => ?_)
 ·intro xs p hp r hr
  simp only [List.mem_cons, List.not_mem_nil, or_false] at hp hr
  rcases hp with rfl | rfl <;> rcases hr with rfl | rfl <;> simp only [ne_eq] <;> omega
 ·intro p hp
  simp only [List.mem_cons, List.not_mem_nil, or_false] at hp
  rcases hp with rfl | rfl <;> exact ⟨rfl, rfl⟩
 ·unfold apH
  rw [apD_nil]
  exact HEnt.renew (H := ⟨4, [(0, .rowc 38 1 D.size (uF D)), (3, .cells 180 [.row 0 1 0 D.size])]⟩) 0 (.rowc 38 1 D.size (uF D)) rfl
 ·refine AWP.round (cfgVOk' _ _ _) [] rfl rfl ?_
  have hsz := apD_size D pre
  unfold apH
  rw [← apD_push D pre a]
  generalize apD D pre = E at *
  refine goA ?_
  refine Ent.mk' (e' := []) (H' := ⟨5, [(3, .cells 180 [.row 4 1 0 (E.push a).size]), (4, .rowc 38 1 (E.push a).size (uF (E.push a)))]⟩) [some 0, some 1, some 2, some 3, some 6] (by kernel_rfl) trivial ?_
  refine ⟨⟨_, rfl, ChE.cells ⟨AVE.len (by simp), rfl⟩⟩, ⟨_, rfl, uF_push rfl rfl⟩, trivial⟩
 ·generalize hE : apD D xs = E
  refine goA ?_
  rw [hE]
  refine ⟨_, _, Ent.mk' (e' := [(0, .row 3 1 0 E.size)]) (H' := ⟨4, [(1, .cells 220 [.mp 2]), (2, .map none (smap un m)), (3, .rowc 38 1 E.size (uF E))]⟩) [some 0, some 1, some 2, some 4] (by kernel_rfl) ⟨AVE.refl _, trivial⟩ ?_, ⟨xs, hxs⟩, by subst hE; rfl, by subst hE; rfl⟩
  exact subC
theorem values_ok (m : NM) : AFn Go.Proofs.Tryz.prog 167 [.mp 0] ⟨1, [(0, .map none (smap un m))]⟩ (fun _ : Unit => .fnc (.func 236) [] [.ptr 1 0]) (fun _ => ⟨2, [(0, .map none (smap un m)), (1, .cells 220 [.mp 0])]⟩) := by
 refine ACall.fin ?_
 refine ACall.walk (C := cfgV 4 1) (cfgVOk _ _) [] (fn := Go.Proofs.Tryz.f167) (by kernel_rfl) (by kernel_rfl) rfl (by kernel_rfl) (by kernel_rfl) rfl rfl ?_
 refine goA ?_
 refine ⟨_, _, Ent.mk' (e' := [(0, .fnc (.func 236) [] [.ptr 1 0])]) (H' := ⟨2, [(0, .map none (smap un m)), (1, .cells 220 [.mp 0])]⟩) [some 0, some 1] (by kernel_rfl) ?_ ?_, (), rfl, rfl⟩
 ·exact ⟨AVE.refl _, trivial⟩
 ·exact subC
theorem collect_ok (m : NM) (hm : (m.map (·.1)).Nodup) (hl : m.length ≤ 1000000) : AFn Go.Proofs.Tryz.prog 166 [.fnc (.func 236) [] [.ptr 0 0]] (nmH m)
 (fun x : { l : List Nat // l.Perm (m.map (·.2)) } => .row 2 1 0 (apD #[] x.1).size) (fun x => ⟨3, [(0, .cells 220 [.mp 1]), (1, .map none (smap un m)), (2, .rowc 38 1 (apD #[] x.1).size (uF (apD #[] x.1)))]⟩) := by
 refine ACall.fin ?_
 refine ACall.walk (C := cfgV 5 2) (cfgVOk _ _) [] (fn := Go.Proofs.Tryz.f166) (by kernel_rfl) (by kernel_rfl) rfl (by kernel_rfl) (by kernel_rfl) rfl rfl ?_
 refine goA ?_
 refine ACall.hent (HEnt.addNil 38 1 (uF #[])) (ACall.argsE [.row 2 1 0 0, .fnc (.func 236) [] [.ptr 0 0]] ⟨AVE.nil _ _, AVE.refl _, rfl⟩ ?_)
 refine AFn.useA [2, 0, 1] (appendSeq_ok m hm #[] (by simpa using hl)) fun x => ?_
 refine ⟨_, HEnt.refl _, ?_⟩
 obtain ⟨l, hp⟩ := x
 refine goA ?_
 refine ⟨_, _, Ent.mk' (e' := [(0, .row 2 1 0 (apD #[] l).size)]) (H' := ⟨3, [(0, .cells 220 [.mp 1]), (1, .map none (smap un m)), (2, .rowc 38 1 (apD #[] l).size (uF (apD #[] l)))]⟩) [some 0, some 1, some 3] (by kernel_rfl) ?_ ?_, ⟨l, hp⟩, rfl, rfl⟩
 ·exact ⟨AVE.refl _, trivial⟩
 ·exact subC
end Go.Proofs.YtgfkepebfaiepaaGreatDoor.Ax

namespace Go.Proofs.YtgfkepebfaiepaaGreatDoor.Ax
open Go.RowKit Go.Sort
set_option maxRecDepth 100000
theorem sortU_perm {a b : List Nat} (h : a.Perm b) : sortU a = sortU b := by
 have tr : ∀ x y z : Nat, (!nlt y x) = true → (!nlt z y) = true → (!nlt z x) = true := fun x y z h1 h2 => by
  simp only [nlt, Bool.not_eq_true', decide_eq_false_iff_not] at *
  omega
 have tt : ∀ x y : Nat, ((!nlt y x) || (!nlt x y)) = true := fun x y => by
  simp only [nlt, Bool.or_eq_true, Bool.not_eq_true', decide_eq_false_iff_not]
  omega
 refine List.Perm.eq_of_pairwise (le := fun x y : Nat => x ≤ y) (fun x y _ _ h1 h2 => Nat.le_antisymm h1 h2) ?_ ?_ ?_
 ·exact (List.pairwise_mergeSort tr tt a).imp fun h => by simp only [nlt, Bool.not_eq_true', decide_eq_false_iff_not] at h; omega
 ·exact (List.pairwise_mergeSort tr tt b).imp fun h => by simp only [nlt, Bool.not_eq_true', decide_eq_false_iff_not] at h; omega
 ·exact ((List.mergeSort_perm _ _).trans h).trans (List.mergeSort_perm _ _).symm
theorem sortU_length (l : List Nat) : (sortU l).length = l.length := by simp [sortU]
theorem sortU_mem {l : List Nat} {x : Nat} : x ∈ sortU l ↔ x ∈ l := by simp [sortU]
theorem sortU_sorted (l : List Nat) : (sortU l).Pairwise (· ≤ ·) := by
 have tr : ∀ x y z : Nat, (!nlt y x) = true → (!nlt z y) = true → (!nlt z x) = true := fun x y z h1 h2 => by
  simp only [nlt, Bool.not_eq_true', decide_eq_false_iff_not] at *
  omega
 have tt : ∀ x y : Nat, ((!nlt y x) || (!nlt x y)) = true := fun x y => by
  simp only [nlt, Bool.or_eq_true, Bool.not_eq_true', decide_eq_false_iff_not]
  omega
 exact (List.pairwise_mergeSort tr tt l).imp fun h => by simp only [nlt, Bool.not_eq_true', decide_eq_false_iff_not] at h; omega
theorem ddGo_mem : ∀ {l : List Nat} {p x : Nat}, x ∈ ddGo p l → x ∈ l
 | y :: l, p, x, h => by
   unfold ddGo at h
   split at h
   ·exact List.mem_cons_of_mem _ (ddGo_mem h)
   ·rcases List.mem_cons.1 h with rfl | h
    ·exact List.mem_cons_self ..
    ·exact List.mem_cons_of_mem _ (ddGo_mem h)
theorem ddGo_mem2 : ∀ {l : List Nat} {p x : Nat}, x ∈ l → x = p ∨ x ∈ ddGo p l
 | y :: l, p, x, h => by
   unfold ddGo
   rcases List.mem_cons.1 h with rfl | h
   ·by_cases e : x = p
    ·exact .inl e
    ·rw [if_neg e]; exact .inr (List.mem_cons_self ..)
   ·split
    ·exact ddGo_mem2 h
    ·rcases ddGo_mem2 (p := y) h with rfl | h
     ·exact .inr (List.mem_cons_self ..)
     ·exact .inr (List.mem_cons_of_mem _ h)
theorem dd_mem {l : List Nat} {x : Nat} : x ∈ dd l ↔ x ∈ l := by
 cases l with
 | nil => simp [dd]
 | cons y l =>
   simp only [dd, List.mem_cons]
   constructor
   ·rintro (h | h)
    ·exact .inl h
    ·exact .inr (ddGo_mem h)
   ·rintro (h | h)
    ·exact .inl h
    ·exact ddGo_mem2 h
theorem ddGo_lt : ∀ {l : List Nat} {p : Nat}, (∀ x ∈ l, p ≤ x) → l.Pairwise (· ≤ ·) → (ddGo p l).Pairwise (· < ·) ∧ ∀ x ∈ ddGo p l, p < x
 | [], _, _, _ => ⟨by simp [ddGo], by simp [ddGo]⟩
 | y :: l, p, h1, h2 => by
   rw [List.pairwise_cons] at h2
   unfold ddGo
   have hy := h1 y (List.mem_cons_self ..)
   split
   ·exact ddGo_lt (fun x hx => h1 x (List.mem_cons_of_mem _ hx)) h2.2
   ·obtain ⟨g1, g2⟩ := ddGo_lt (p := y) h2.1 h2.2
    refine ⟨List.pairwise_cons.2 ⟨g2, g1⟩, fun x hx => ?_⟩
    rcases List.mem_cons.1 hx with rfl | hx
    ·omega
    ·have := g2 x hx
     omega
theorem dd_lt {l : List Nat} (h : l.Pairwise (· ≤ ·)) : (dd l).Pairwise (· < ·) := by
 cases l with
 | nil => simp [dd]
 | cons y l =>
   rw [List.pairwise_cons] at h
   obtain ⟨g1, g2⟩ := ddGo_lt (p := y) h.1 h.2
   exact List.pairwise_cons.2 ⟨g2, g1⟩
def vals (m : NM) : List Nat := m.map (·.2)
def upTo (f : FD) (n : Nat) : List Nat := (List.range (n + 1)).flatMap fun k => vals (onAll f.safe (f.ds.take k))
theorem upTo_succ (f : FD) (n : Nat) : upTo f (n + 1) = upTo f n ++ vals (onAll f.safe (f.ds.take (n + 1))) := by
 unfold upTo
 rw [List.range_succ, List.flatMap_append]
 simp
def FD.live (f : FD) : List Nat := dd (sortU (upTo f f.ds.length))
structure LS (f : FD) where
 i : Nat
 hi : i ≤ f.ds.length
 D : Array Nat
 hD : D.toList.Perm (upTo f i)
theorem upTo_len {f : FD} (h : f.In NOk) : ∀ n, n ≤ f.ds.length → (upTo f n).length ≤ 1000 * (n + 1)
 | 0, h0 => by
   have := (h.all 0 h0).len
   simp [upTo, vals] at this ⊢
   omega
 | n + 1, hn => by
   have h1 := upTo_len h n (by omega)
   have h2 := (h.all (n + 1) hn).len
   rw [upTo_succ, List.length_append]
   unfold vals
   rw [List.length_map]
   omega
section
variable (f : FD)
set_option maxHeartbeats 1000000 in
theorem live_in (hin : f.In NOk) (hds : f.ds.length ≤ 500) : AFn Go.Proofs.Tryz.prog 107 [.ptr 0 0] f.H (fun _ : Unit => .iv (.sl 1 f.live.length (uF f.live.toArray))) (fun _ => f.H) := by
 have ok : ∀ k, k ≤ f.ds.length → NOk (onAll f.safe (f.ds.take k)) := hin.all
 have ok0 := ok 0 (Nat.zero_le _)
 have e0 : onAll f.safe (f.ds.take 0) = f.safe := rfl
 rw [e0] at ok0
 refine ACall.fin ?_
 refine ACall.walk (C := cfgV 38 4) (cfgVOk _ _) [] (fn := Go.Proofs.Tryz.f107) (by kernel_rfl) (by kernel_rfl) rfl (by kernel_rfl) (by kernel_rfl) rfl rfl ?_
 refine goA ?_
 refine AFn.useA [0, 1, 2, 3] (none_in f) fun _ => ?_
 refine goA ?_
 refine AFn.useA [1] (mclone_ok (smap un f.safe)) fun _ => ?_
 refine goA ?_
 refine AFn.useA [4] (values_ok f.safe) fun _ => ?_
 refine goA ?_
 refine AFn.useA [5, 4] (collect_ok f.safe ok0.nd (by have := ok0.len; omega)) fun x => ?_
 obtain ⟨l0, hl0⟩ := x
 refine goA ?_
 refine AWP.loop (X := LS f) (fun y => [(3, .mp 4), (4, .row 5 1 0 y.D.size), (20, .row 3 1 0 f.ds.length), (21, AV.int .i64 f.ds.length), (22, AV.int .i64 y.i)]) (fun y => ⟨6, f.H.ch ++ [(4, .map none (smap un (onAll f.safe (f.ds.take y.i)))), (5, .rowc 38 1 y.D.size (uF y.D))]⟩) (fun y => f.ds.length - y.i) (⟨0, Nat.zero_le _, apD #[] l0, by simpa [apD, upTo, vals, onAll] using hl0⟩) ?_ fun y => AWP.go (S := []) (cfgVOk _ _) (.of_eq (by kernel_rfl)) ?_
 ·refine Ent.mk' [some 0, some 1, some 2, some 3, some 4, some 6] (by kernel_rfl) ⟨AVE.refl _, AVE.refl _, AVE.refl _, AVE.refl _, AVE.refl _, trivial⟩ ?_
  exact subC
 ·obtain ⟨i, hi, D, hD⟩ := y
  have hix : ((i : Nat) : Int).toNat = i := by simp
  have hDl : D.size ≤ 1000 * (i + 1) := by
   have := hD.length_eq
   rw [Array.length_toList] at this
   rw [this]
   exact upTo_len hin i hi
  refine goA ?_
  refine ifdA (fun h => ?_) (fun h => ?_) <;> (try dsimp only at h)
  ·have hnx := ds_next (A := f.ds) (i := i) (by omega)
   have okn := ok (i + 1) (by omega)
   have hmn := okn.nd
   have hln := okn.len
   refine goA ?_
   generalize hE : f.ds.getD (0 + ((i : Nat) : Int).toNat) default = E
   rw [hix, Nat.zero_add] at hE
   rw [hE] at hnx
   have hon : onAll f.safe (f.ds.take (i + 1)) = E.on (onAll f.safe (f.ds.take i)) := by rw [hnx, onAll_snoc]
   have perm : ∀ {lz : List Nat}, D.toList.Perm (upTo f i) → lz.Perm (vals (onAll f.safe (f.ds.take (i + 1)))) → (apD D lz).toList.Perm (upTo f (i + 1)) := fun h1 h2 => by
    rw [upTo_succ]
    unfold apD
    rw [Array.toList_append]
    exact h1.append h2
   cases E with
   | mk x m =>
     have hon : onAll f.safe (f.ds.take (i + 1)) = aput (onAll f.safe (f.ds.take i)) x m := hon
     rw [hon] at hmn hln
     refine goA ?_
     refine AFn.useA [4] (mk_ok (onAll f.safe (f.ds.take i)) x m) fun _ => ?_
     refine goA ?_
     refine AFn.useA [4] (values_ok (aput (onAll f.safe (f.ds.take i)) x m)) fun _ => ?_
     refine goA ?_
     refine AFn.useA [5, 6, 4] (appendSeq_ok (aput (onAll f.safe (f.ds.take i)) x m) hmn D (by omega)) fun z => ?_
     obtain ⟨lz, hz⟩ := z
     refine goA ?_
     refine ⟨⟨i + 1, by omega, apD D lz, perm hD (by rw [hon]; exact hz)⟩, Ent.mkC [some 0, some 1, some 2, some 3, some 4, some 7] ?_, ?_⟩
     ·exact ⟨⟨_, rfl, ChE.refl _⟩, ⟨_, rfl, ChE.refl _⟩, ⟨_, rfl, ChE.refl _⟩, ⟨_, rfl, ChE.refl _⟩, ⟨_, rfl, ChE.of_eq (by rw [hon]; rfl)⟩, ⟨_, rfl, ChE.refl _⟩, trivial⟩
     ·show f.ds.length - (i + 1) < f.ds.length - i
      omega
   | rm x =>
     have hon : onAll f.safe (f.ds.take (i + 1)) = adel (onAll f.safe (f.ds.take i)) x := hon
     rw [hon] at hmn hln
     refine goA ?_
     refine AFn.useA [4] (rm_ok (onAll f.safe (f.ds.take i)) x) fun _ => ?_
     refine goA ?_
     refine AFn.useA [4] (values_ok (adel (onAll f.safe (f.ds.take i)) x)) fun _ => ?_
     refine goA ?_
     refine AFn.useA [5, 6, 4] (appendSeq_ok (adel (onAll f.safe (f.ds.take i)) x) hmn D (by omega)) fun z => ?_
     obtain ⟨lz, hz⟩ := z
     refine goA ?_
     refine ⟨⟨i + 1, by omega, apD D lz, perm hD (by rw [hon]; exact hz)⟩, Ent.mkC [some 0, some 1, some 2, some 3, some 4, some 7] ?_, ?_⟩
     ·exact ⟨⟨_, rfl, ChE.refl _⟩, ⟨_, rfl, ChE.refl _⟩, ⟨_, rfl, ChE.refl _⟩, ⟨_, rfl, ChE.refl _⟩, ⟨_, rfl, ChE.of_eq (by rw [hon]; rfl)⟩, ⟨_, rfl, ChE.refl _⟩, trivial⟩
     ·show f.ds.length - (i + 1) < f.ds.length - i
      omega
  ·have hin' : i = f.ds.length := by omega
   subst hin'
   obtain ⟨l⟩ := D
   have hlv : dd (sortU l) = f.live := by
    unfold FD.live
    rw [sortU_perm hD]
   have hsl : l.length = (sortU l).length := (sortU_length _).symm
   have hDl : l.length ≤ 1000 * (f.ds.length + 1) := hDl
   refine goA ?_
   refine AFn.useA [5] (sort_ok l (by omega)) fun _ => ?_
   have hc := compact_ok (sortU l) (by omega)
   rw [← hsl] at hc
   refine goA ?_
   refine AFn.useA [5] (hc) fun _ => ?_
   rw [hlv]
   refine goA ?_
   refine ⟨_, _, (Ent.freeze 5 _ rfl rfl (e' := [(0, .iv (.sl 1 f.live.length (uF f.live.toArray)))]) ⟨AVF.sl (Nat.le_refl _), trivial⟩).trans (Ent.mk' (e' := [(0, .iv (.sl 1 f.live.length (uF f.live.toArray)))]) (H' := f.H) [some 0, some 1, some 2, some 3] (by kernel_rfl) ⟨AVE.refl _, trivial⟩ ?_), (), rfl, rfl⟩
   exact subC
theorem live_ok (hin : f.In NOk) (hds : f.ds.length ≤ 500) : AFn Go.Proofs.Tryz.prog 107 [.ptr 0 0] (one f.H) (fun _ : Unit => .iv (.sl 1 f.live.length (uF f.live.toArray))) (fun _ => one f.H) := AFn.shut (live_in f hin hds) rfl rfl (fun _ => ⟨by kernel_rfl, by kernel_rfl⟩) (fun _ => (by repeat' first | exact trivial | refine ⟨rfl, ?_⟩)) (fun _ => rfl)
end
end Go.Proofs.YtgfkepebfaiepaaGreatDoor.Ax

namespace Go.Proofs.YtgfkepebfaiepaaGreatDoor.Ax
open Go.RowKit Go.Sort
set_option maxRecDepth 100000
theorem mem_adel {β : Type} {l : List (List UInt8 × β)} {s : List UInt8} {p : List UInt8 × β} : p ∈ adel l s ↔ p ∈ l ∧ p.1 ≠ s := by
 unfold adel
 rw [List.mem_filter]
 simp
theorem keys_adel {β : Type} (l : List (List UInt8 × β)) (s : List UInt8) : (adel l s).map (·.1) = (l.map (·.1)).filter fun k => decide (k ≠ s) := by
 unfold adel
 rw [List.filter_map]
 congr 1
theorem nodup_adel {β : Type} {l : List (List UInt8 × β)} (s : List UInt8) (h : (l.map (·.1)).Nodup) : ((adel l s).map (·.1)).Nodup := by
 rw [keys_adel]
 exact h.sublist List.filter_sublist
theorem keys_aput {β : Type} (s : List UInt8) (n : β) : ∀ l : List (List UInt8 × β), (aput l s n).map (·.1) = if s ∈ l.map (·.1) then l.map (·.1) else l.map (·.1) ++ [s]
 | [] => by simp [aput]
 | p :: l => by
   have ih := keys_aput s n l
   unfold aput
   by_cases h : p.1 = s
   ·rw [if_pos h, if_pos (by simp [h])]
    simp [h]
   ·rw [if_neg h, List.map_cons, ih]
    by_cases h2 : s ∈ l.map (·.1)
    ·rw [if_pos h2, if_pos (by rw [List.map_cons]; exact List.mem_cons_of_mem _ h2)]
     rfl
    ·rw [if_neg h2, if_neg (by simp only [List.map_cons, List.mem_cons, not_or]; exact ⟨fun e => h e.symm, h2⟩)]
     rfl
theorem nodup_aput {β : Type} {l : List (List UInt8 × β)} (s : List UInt8) (n : β) (h : (l.map (·.1)).Nodup) : ((aput l s n).map (·.1)).Nodup := by
 rw [keys_aput]
 split
 ·exact h
 ·rename_i hs
  rw [List.nodup_append]
  refine ⟨h, by simp, fun a ha b hb => ?_⟩
  simp at hb
  subst hb
  exact fun e => hs (e ▸ ha)
theorem mem_aput {β : Type} {s : List UInt8} {n : β} {p : List UInt8 × β} : ∀ {l : List (List UInt8 × β)}, (l.map (·.1)).Nodup → (p ∈ aput l s n ↔ (p ∈ l ∧ p.1 ≠ s) ∨ p = (s, n))
 | [], _ => by simp [aput]
 | q :: l, h => by
   simp only [List.map_cons, List.nodup_cons] at h
   have ih := mem_aput (s := s) (n := n) (p := p) h.2
   unfold aput
   by_cases hq : q.1 = s
   ·rw [if_pos hq]
    constructor
    ·intro hp
     rcases List.mem_cons.1 hp with e | hp
     ·exact .inr e
     ·exact .inl ⟨List.mem_cons_of_mem _ hp, fun e => h.1 (by rw [hq, ← e]; exact List.mem_map_of_mem hp)⟩
    ·rintro (⟨hp, hne⟩ | e)
     ·rcases List.mem_cons.1 hp with e | hp
      ·exact absurd (by rw [e]; exact hq) hne
      ·exact List.mem_cons_of_mem _ hp
     ·rw [e]; exact List.mem_cons_self ..
   ·rw [if_neg hq, List.mem_cons, ih, List.mem_cons]
    constructor
    ·rintro (e | (⟨h1, h2⟩ | e))
     ·subst e; exact .inl ⟨.inl rfl, hq⟩
     ·exact .inl ⟨.inr h1, h2⟩
     ·exact .inr e
    ·rintro (⟨e | h1, h2⟩ | e)
     ·exact .inl e
     ·exact .inr (.inl ⟨h1, h2⟩)
     ·exact .inr (.inr e)
structure IOk (last n : Nat) (m : NM) : Prop where
 len : m.length ≤ n
 nd : (m.map (·.1)).Nodup
 inj : ∀ p ∈ m, ∀ q ∈ m, p.2 = q.2 → p = q
 rng : ∀ p ∈ m, 1 ≤ p.2 ∧ p.2 ≤ last ∧ mayB p.1 = true
theorem mayB_len {x : List UInt8} (h : mayB x = true) : x.length ≤ 32 := by
 unfold mayB at h
 simp only [Bool.and_eq_true, decide_eq_true_eq] at h
 omega
theorem IOk.nok {last n : Nat} {m : NM} (h : IOk last n m) (hn : n ≤ 1000) : NOk m := ⟨Nat.le_trans h.len hn, fun p hp => mayB_len (h.rng p hp).2.2, h.nd⟩
theorem IOk.more {last n last' n' : Nat} {m : NM} (h : IOk last n m) (h1 : last ≤ last') (h2 : n ≤ n') : IOk last' n' m := ⟨Nat.le_trans h.len h2, h.nd, h.inj, fun p hp => by have := h.rng p hp; exact ⟨this.1, by omega, this.2.2⟩⟩
theorem IOk.none (last n : Nat) : IOk last n [] := ⟨Nat.zero_le _, by simp, (fun _ hp => by cases hp), (fun _ hp => by cases hp)⟩
theorem IOk.put {last n : Nat} {m : NM} (h : IOk last n m) {s : List UInt8} (hs : mayB s = true) : IOk (last + 1) (n + 1) (aput m s (last + 1)) := by
 refine ⟨Nat.le_trans (aput_length m) (by have := h.len; omega), nodup_aput s _ h.nd, fun p hp q hq e => ?_, fun p hp => ?_⟩
 ·rcases (mem_aput h.nd).1 hp with ⟨p1, _⟩ | p1 <;> rcases (mem_aput h.nd).1 hq with ⟨q1, _⟩ | q1
  ·exact h.inj p p1 q q1 e
  ·have := (h.rng p p1).2.1; rw [q1] at e; simp only at e; omega
  ·have := (h.rng q q1).2.1; rw [p1] at e; simp only at e; omega
  ·rw [p1, q1]
 ·rcases (mem_aput h.nd).1 hp with ⟨p1, _⟩ | p1
  ·have := h.rng p p1; exact ⟨this.1, by omega, this.2.2⟩
  ·rw [p1]; exact ⟨by simp, by simp, hs⟩
theorem IOk.del {last n : Nat} {m : NM} (h : IOk last n m) (s : List UInt8) : IOk last n (adel m s) :=
 ⟨Nat.le_trans (adel_length m s) h.len, nodup_adel s h.nd, fun p hp q hq e => h.inj p (mem_adel.1 hp).1 q (mem_adel.1 hq).1 e, fun p hp => h.rng p (mem_adel.1 hp).1⟩
theorem FD.In.did2 {P Q : NM → Prop} {f : FD} (h : f.In P) (hPQ : ∀ m, P m → Q m) {D : Deed} (hD : Q (D.on f.now)) (n : Nat) : (FD.did ⟨f.safe, f.now, f.ds, n⟩ D).In Q := by
 refine ⟨?_, fun k hk => ?_⟩
 ·show D.on f.now = onAll f.safe (f.ds ++ [D])
  rw [onAll_snoc, h.eq]
 ·show Q (onAll f.safe ((f.ds ++ [D]).take k))
  have hk : k ≤ (f.ds ++ [D]).length := hk
  rw [List.length_append] at hk
  by_cases e : k ≤ f.ds.length
  ·rw [List.take_append_of_le_length e]
   exact hPQ _ (h.all k e)
  ·rw [List.take_of_length_le (by simp at hk ⊢; omega), onAll_snoc, ← h.eq]
   exact hD
theorem mayB_of {x : List UInt8} {e : Int} (h : (bif !mayB x then (1 : Int) else e) = 0) : mayB x = true ∧ e = 0 := by
 cases hb : mayB x with
 | true => rw [hb] at h; exact ⟨rfl, h⟩
 | false => rw [hb] at h; simp at h
theorem createE_zero {f : FD} {x : List UInt8} (h : f.createE x = 0) : mayB x = true ∧ afind f.now x = none := by
 obtain ⟨h1, h2⟩ := mayB_of h
 refine ⟨h1, ?_⟩
 cases hf : afind f.now x with
 | none => rfl
 | some n => rw [hf] at h2; simp at h2
theorem live_mem {f : FD} {x : Nat} : x ∈ f.live ↔ ∃ k, k ≤ f.ds.length ∧ x ∈ vals (onAll f.safe (f.ds.take k)) := by
 unfold FD.live
 rw [dd_mem, sortU_mem]
 unfold upTo
 rw [List.mem_flatMap]
 constructor
 ·rintro ⟨k, hk, hx⟩
  exact ⟨k, by have := List.mem_range.1 hk; omega, hx⟩
 ·rintro ⟨k, hk, hx⟩
  exact ⟨k, List.mem_range.2 (by omega), hx⟩
theorem live_len {f : FD} (h : f.In NOk) : f.live.length ≤ 1000 * (f.ds.length + 1) := by
 have h1 := dd_len (sortU (upTo f f.ds.length)) (sortU (upTo f f.ds.length)).length
 rw [List.take_length, sortU_length] at h1
 exact Nat.le_trans h1 (upTo_len h _ (Nat.le_refl _))
theorem live_lt (f : FD) : f.live.Pairwise (· < ·) := dd_lt (sortU_sorted _)
end Go.Proofs.YtgfkepebfaiepaaGreatDoor.Ax
