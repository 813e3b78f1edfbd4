/-
  Chapter 26: slices.Sorted(maps.Keys(m)).
-/
import Derived.Test.YtaoambbfjdijjaaMa
import Derived.Test.YtaoambbfjdijjaaLays26
namespace Go.Proofs.Ytaoambbfjdijjaa.Ax
open Go.RowKit Go.Maps Go.Sort Go.Shelf
set_option maxRecDepth 100000
theorem sortsIn (m : Nat) : AnyZ.SortsIn Try.prog Try.sorted57_ren Fence.wide m :=
  ⟨fun blk off cap ss W hH hblk hsz => callsIn_wide.2 (AnyM.slices_Sort_string Try.sort99 blk off cap ss W hH hblk hsz),
   fun p cap W => callsIn_wide.2 (AnyM.slices_Sort_string_none Try.sort99 p cap W)⟩
theorem hasBody {fn : Func} (h : fn.body.isNone = false) : ∃ c, fn.body = some c := by
  cases hb : fn.body with
  | none => rw [hb] at h; cases h
  | some c => exact ⟨c, rfl⟩
def mpH (T : Nat) (m : List (MK × IV)) : AH := ⟨2, [(0, .cells T [.mp 1]), (1, .map none m)]⟩
theorem sortedK {g : Nat} (T : Nat) (hfn : ∃ fn, Go.Proofs.Try.prog.funcs[g]? = some fn ∧ (fn.name == "runtime.NumGoroutine") = false ∧ fn.body.isNone = false)
    (hg : ∀ (Bm b nn : Nat) (D0 : DataW Value) (W : World), Bm < W.heap.size → W.cell? ⟨Bm, 0, none⟩ = some (.map (some b)) → W.ownsMap Go.Proofs.Try.prog 9 heldR b nn D0 → SeqGives Fence.wide 2 Go.Proofs.Try.prog g #[.pointer (some ⟨Bm, 0, none⟩)] encStr (fun ss => ss.Perm (strKeys D0)) (Maps.size D0) W)
    (m : List (MK × IV)) (hm : m.length ≤ 100000) (hl : ∀ x ∈ keysS m, x.length ≤ 9223372036854775807) :
    AFn Go.Proofs.Try.prog 57 [.fnc (.func g) [] [.ptr 0 0]] (mpH T m) (fun _ : Unit => .iv (strRow (sortS (keysS m)))) (fun _ => mpH T m) := by
  refine ⟨⟨_, Try.func57, by kernel_rfl, by kernel_rfl⟩, fun ρ ι w cargs hS hr => ?_⟩
  simp only [AV.Rs, AV.R] at hr
  obtain ⟨u, us, rfl, ⟨as0, cs0, rfl, rfl, u1, us1, rfl, ⟨hv, Bm, h1, h2, rfl⟩, rfl⟩, rfl⟩ := hr
  obtain ⟨hv', g1, b', vs, g2, g3, g4, g5⟩ := hS.hv (k := 0) (c := .cells T [.mp 1]) rfl
  rw [h1] at g1; injection g1 with g1; subst g1
  rw [h2] at g2; injection g2 with g2; subst g2
  simp only [AV.Rs, AV.R] at g5
  obtain ⟨u, us, rfl, ⟨hw, b, k1, k2, rfl⟩, rfl⟩ := g5
  obtain ⟨hw', q1, b', es, clock, q2, q3, q4, q5⟩ := hS.hv (k := 1) (c := .map none m) rfl
  rw [k1] at q1; injection q1 with q1; subst q1
  rw [k2] at q2; injection q2 with q2; subst q2
  obtain ⟨D0, o1, o2, o3⟩ := MapR.owns (P := Go.Proofs.Try.prog) Try.underlying9 q5 q4 (by simp only [maxLen]; omega) hl
  have hlt : Bm < w.heap.size := (Array.getElem?_eq_some_iff.1 g4).1
  have hseq := hg Bm b es.size D0 w hlt (by simp [World.cell?, g4]) o1
  have hC := callsIn_wide.1 (AnyZ.sorted_in Try.sorted57 Fence.wide 5 trivial trivial trivial trivial rfl (by omega) (sortsIn _) (enters_of Try.func99 (by kernel_rfl) rfl) g #[.pointer (some ⟨Bm, 0, none⟩)] trivial (by obtain ⟨fn, e1, e2, e3⟩ := hfn; obtain ⟨c, hc⟩ := hasBody e3; exact enters_of e1 e2 hc) _ _ (by rw [o3]; simp only [maxLen]; omega) (by rw [o3]; omega) _ hseq)
  refine Calls.mono hC fun e w' ⟨v, ss, he, p1, p2, _, p4⟩ => ?_
  subst he
  have e2 : (ss.mergeSort fun x y => decide (x ≤ y)) = sortS (keysS m) := mergeSort_of_perm (p1.trans o2)
  have e3 : ss.length = (sortS (keysS m)).length := by rw [← e2, List.length_mergeSort]
  rw [e2, e3] at p2
  obtain ⟨ι', r1, r2, r3⟩ := own_row hS p4 p2
  exact ⟨_, _, ρ, ι', ⟨(), rfl, rfl⟩, r3, r1, r2⟩
theorem enterF {g : Nat} {fn : Func} (h : Go.Proofs.Try.prog.funcs[g]? = some fn) (h1 : (fn.name == "runtime.NumGoroutine") = false) (h2 : fn.body.isNone = false) : ∃ fn, Go.Proofs.Try.prog.funcs[g]? = some fn ∧ (fn.name == "runtime.NumGoroutine") = false ∧ fn.body.isNone = false := ⟨fn, h, h1, h2⟩
theorem sorted58 (m : List (MK × IV)) (hm : m.length ≤ 100000) (hl : ∀ x ∈ keysS m, x.length ≤ 9223372036854775807) : AFn Go.Proofs.Try.prog 57 [.fnc (.func 100) [] [.ptr 0 0]] (mpH 102 m) (fun _ : Unit => .iv (strRow (sortS (keysS m)))) (fun _ => mpH 102 m) :=
  sortedK 102 (enterF Try.func100 (by kernel_rfl) (by kernel_rfl)) (fun Bm b nn D0 W a1 a2 a3 => AnyZ.keys_gives (ρ := Try.keys58_ren) { Try.keys58 with } Fence.wide _ trivial rfl (by omega) Bm b nn D0 W a1 a2 a3) m hm hl
theorem sorted60 (m : List (MK × IV)) (hm : m.length ≤ 100000) (hl : ∀ x ∈ keysS m, x.length ≤ 9223372036854775807) : AFn Go.Proofs.Try.prog 57 [.fnc (.func 101) [] [.ptr 0 0]] (mpH 99 m) (fun _ : Unit => .iv (strRow (sortS (keysS m)))) (fun _ => mpH 99 m) :=
  sortedK 99 (enterF Try.func101 (by kernel_rfl) (by kernel_rfl)) (fun Bm b nn D0 W a1 a2 a3 => AnyZ.keys_gives (ρ := Try.keys60_ren) { Try.keys60 with } Fence.wide _ trivial rfl (by omega) Bm b nn D0 W a1 a2 a3) m hm hl
theorem sorted67 (m : List (MK × IV)) (hm : m.length ≤ 100000) (hl : ∀ x ∈ keysS m, x.length ≤ 9223372036854775807) : AFn Go.Proofs.Try.prog 57 [.fnc (.func 104) [] [.ptr 0 0]] (mpH 115 m) (fun _ : Unit => .iv (strRow (sortS (keysS m)))) (fun _ => mpH 115 m) :=
  sortedK 115 (enterF Try.func104 (by kernel_rfl) (by kernel_rfl)) (fun Bm b nn D0 W a1 a2 a3 => AnyZ.keys_gives (ρ := Try.keys67_ren) { Try.keys67 with } Fence.wide _ trivial rfl (by omega) Bm b nn D0 W a1 a2 a3) m hm hl
end Go.Proofs.Ytaoambbfjdijjaa.Ax
