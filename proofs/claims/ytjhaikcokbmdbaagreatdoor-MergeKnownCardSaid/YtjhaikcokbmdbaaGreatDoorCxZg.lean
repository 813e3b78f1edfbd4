/-
  Closed runs: tables that start-up lays and nobody writes.
-/
import Derived.Test.YtjhaikcokbmdbaaGreatDoorCxZf
import Derived.Lib.LaidTab
namespace Go.Proofs.YtjhaikcokbmdbaaGreatDoor.Cx
open Go.RowKit Go.Proofs.YtjhaikcokbmdbaaGreatDoor.Ax

theorem Rs_ints (ρ : Rho) (k : IntKind) : ∀ zs : List Int, CV.Rs ρ (mapL (CV.int k) zs) (zs.map (Value.int k))
  | [] => by simp [mapL, CV.Rs]
  | z :: zs => by
    show CV.Rs ρ (CV.int k z :: mapL (CV.int k) zs) _
    simp only [List.map_cons, CV.Rs]
    exact ⟨_, _, rfl, by simp only [CV.R], Rs_ints ρ k zs⟩
theorem GOk.set {G : Tr (List CV)} {W : World} {P : Program} {name : String} {k : IntKind} {z : Int} {zs : List Int} {g : Nat} (hG : GOk G W) (hT : Lib.TabIs P W name k (z :: zs)) (hg : P.globalNamed name = some g) :
    GOk (G.set g (some (mapL (CV.int k) (z :: zs)))) W := by
  refine ⟨hG.1, fun g' cs h => ?_⟩
  rw [Tr.get_set] at h
  split at h
  · rename_i e
    subst e
    injection h with h
    subst h
    have h0 := hT.cell hg 0 (by simp)
    refine ⟨?_, _, fun ρ _ _ => Rs_ints ρ k _, fun j u hu => ?_⟩
    · rcases Nat.lt_or_ge g' W.heap.size with h' | h'
      · exact h'
      · simp [World.cell?, Array.getElem?_eq_none h'] at h0
    · rw [List.getElem?_map, Option.map_eq_some_iff] at hu
      obtain ⟨y, hy, e⟩ := hu
      subst e
      have hj := (List.getElem?_eq_some_iff.1 hy).1
      have := hT.cell hg j hj
      rw [this, List.getD_eq_getElem?_getD, hy]
      rfl
  · exact hG.2 g' cs h
/-- A variable that holds a map that start-up lays. -/
theorem GOk.setMap {G : Tr (List CV)} {W : World} {i g : Nat} {y : KK × List (CK × CV)} (hG : GOk G W) (hi : gmaps[i]? = some (g, y)) : GOk (G.set g (some [.mp i])) W := by
  refine ⟨hG.1, fun g' cs h => ?_⟩
  rw [Tr.get_set] at h
  split at h
  · rename_i e
    subst e
    injection h with h
    subst h
    obtain ⟨r, h1, h2, h3⟩ := hG.1 i _ hi
    refine ⟨cell_lt h2, [.map (some r)], fun ρ n hgm => ?_, fun j u hu => ?_⟩
    · obtain ⟨_, r', q1, _, q3, _⟩ := hgm i _ hi
      have e : r' = r := by
        have q3 : W.cell? ⟨g', 0, Option.none⟩ = some (.map (some r')) := q3
        have h2 : W.cell? ⟨g', 0, Option.none⟩ = some (.map (some r)) := h2
        rw [h2] at q3
        injection q3 with q3
        injection q3 with q3
        injection q3 with q3
        exact q3.symm
      subst e
      simp only [CV.Rs, CV.R]
      exact ⟨_, [], rfl, ⟨r', 0, q1, rfl⟩, rfl⟩
    · cases j with
      | zero =>
        have hu : some (Value.map (some r)) = some u := hu
        injection hu with hu
        subst hu
        exact h2
      | succ j => simp at hu
  · exact hG.2 g' cs h
theorem GmW.none (h : gmaps = []) (W : World) : GmW W := fun i x hx => by rw [h] at hx; simp at hx
theorem laid_tail {P : Program} {x : String × DataW Unit} {r : List (String × DataW Unit)} {w : World} (h : laidMet P (x :: r) w) : laidMet P r w := by
  obtain ⟨ps, ⟨g, t, cs, fuel, p, q, h1, h2, h3, h4, h5, h6⟩, h7, h8⟩ := h
  subst h6
  exact ⟨q, h5, (List.nodup_append.1 h7).2.1, fun b off hm => h8 b off (List.mem_append_right _ hm)⟩
end Go.Proofs.YtjhaikcokbmdbaaGreatDoor.Cx
