/-
  Chapter 07: crash by crash: plain laws.
-/
import Derived.Test.YtpgdbeacmlojcaaGreatJf
namespace Go.Proofs.YtpgdbeacmlojcaaGreat.Ax
open Go.RowKit
set_option maxRecDepth 100000
theorem csN_find : ∀ (l : List Nat) (P : List Int) (fs : List (Nat × FI)) (x : Nat), l.Nodup → ∃ K : Nat, ffind (csN P fs l).2 x = (ffind fs x).map fun f => if x ∈ l then f.crash K else f
  | [], P, fs, x, _ => ⟨0, by simp [csN]⟩
  | y :: l, P, fs, x, hn => by
    rw [List.nodup_cons] at hn
    obtain ⟨K, hK⟩ := csN_find l P.tail (fset fs y (((ffind fs y).getD ⟨[], [], []⟩).crash (pickN P (fl ((ffind fs y).getD ⟨[], [], []⟩).ds)))) x hn.2
    have e : csN P fs (y :: l) = csN P.tail (fset fs y (((ffind fs y).getD ⟨[], [], []⟩).crash (pickN P (fl ((ffind fs y).getD ⟨[], [], []⟩).ds)))) l := rfl
    rw [e]
    by_cases hx : x = y
    · subst hx
      rw [hK, ffind_fset]
      cases hf : ffind fs x with
      | none => exact ⟨0, by simp⟩
      | some f => exact ⟨pickN P (fl f.ds), by simp [hn.1]⟩
    · refine ⟨K, ?_⟩
      rw [hK, ffind_fset, if_neg fun h => hx h.1]
      congr 1
      funext f
      simp [hx]
/-- A file at rest. -/
structure FI.Still (f : FI) : Prop where
  ds : f.ds = []
  safe : f.safe = f.now
theorem still_crash {f : FI} (h : f.Still) (K : Nat) : (f.crash K).now = f.now := by
  unfold FI.crash
  rw [h.ds]
  exact h.safe
theorem crash_still (f : FI) (K : Nat) : (f.crash K).Still := ⟨rfl, rfl⟩
/-- A file system at rest. -/
structure VM.Quiet (v : VM) : Prop where
  ds : v.fd.ds = []
  files : ∀ p ∈ v.fd.now, ∀ f, ffind v.fs p.2 = some f → f.Still
section
variable {n B k : Nat} {v : VM} (h : v.Ok n B k)
include h
theorem VM.Ok.liveNow : ∀ p ∈ v.fd.now, p.2 ∈ v.fd.live := fun p hp =>
  live_mem.2 ⟨v.fd.ds.length, Nat.le_refl _, by rw [List.take_length, ← h.fd.eq]; exact List.mem_map_of_mem hp⟩
omit h in
theorem crash_find (P : List Int) {x : Nat} (hx : x ∈ (v.crash P).fd.live) : ∃ K : Nat, ffind (v.crash P).fs x = (ffind v.fs x).map fun f => f.crash K := by
  have hx : x ∈ (v.crash1 P).fd.live := hx
  obtain ⟨K, hK⟩ := csN_find (v.crash1 P).fd.live P.tail (v.crash1 P).fs x ((live_lt _).imp fun h => Nat.ne_of_lt h)
  refine ⟨K, ?_⟩
  have e : (v.crash P).fs = (csN P.tail (v.crash1 P).fs (v.crash1 P).fd.live).2 := rfl
  rw [e, hK]
  have e2 : ffind (v.crash1 P).fs x = ffind v.fs x := by
    show ffind (v.fs.filter fun p => decide (p.1 ∈ (v.crash1 P).fd.live)) x = _
    rw [ffind_filter (fun y => decide (y ∈ (v.crash1 P).fd.live)), if_pos (decide_eq_true hx)]
  rw [e2]
  congr 1
  funext f
  rw [if_pos hx]
theorem crash_quiet (P : List Int) : (v.crash P).Quiet := by
  refine ⟨rfl, fun p hp f hf => ?_⟩
  obtain ⟨K, hK⟩ := crash_find P ((h.crash P).liveNow p hp)
  rw [hK] at hf
  obtain ⟨g, _, rfl⟩ := Option.map_eq_some_iff.1 hf
  exact crash_still g K
theorem quiet_now (q : v.Quiet) (P : List Int) : (v.crash P).fd.now = v.fd.now := by
  have h1 := h.fd.eq
  rw [q.ds] at h1
  show onAll v.fd.safe (v.fd.ds.take _) = _
  rw [q.ds, List.take_nil, h1]
theorem quiet_crash (q : v.Quiet) (ho : v.off = false) (P : List Int) : (v.crash P).stL = v.stL := by
  refine stL_congr h (h.crash P) ho rfl (quiet_now h q P) fun p hp => ?_
  obtain ⟨K, hK⟩ := crash_find P ((h.crash P).liveNow p (by rw [quiet_now h q P]; exact hp))
  rw [hK]
  cases hf : ffind v.fs p.2 with
  | none => rfl
  | some f =>
    simp only [Option.map_some]
    rw [still_crash (q.files p hp f hf) K]
end
/-! One file is made safe. -/
theorem sync_find {n B k : Nat} {u : VM} (h : u.Ok n B k) (up : u.Up) {x : List UInt8} {m : Nat} (hm : mayB x = true) (hx : afind u.fd.now x = some m) : u.syncE x = 0 ∧ (u.sync x).fd = u.fd ∧ ∃ f, ffind u.fs m = some f ∧ ∀ y ∈ u.fd.live, ffind (u.sync x).fs y = if y = m then some ⟨f.now, f.now, []⟩ else ffind u.fs y := by
  obtain ⟨f, hf⟩ := h.led x m hx
  have h0 : u.tick.findE x = 0 := findE_yes hm hx
  have ef : u.tick.file x = f := file_of hx hf
  have en : u.tick.fd.findN x = m := by
    show (afind u.fd.now x).getD 0 = m
    rw [hx]
    rfl
  have es : u.sync x = VM.clean { u.tick with fs := fset u.fs m ⟨f.now, f.now, []⟩ } := by
    unfold VM.sync
    rw [stepV_on up.off up.ne]
    unfold withV
    rw [if_pos h0, en, ef]
    rfl
  refine ⟨?_, by rw [es]; rfl, f, hf, fun y hy => ?_⟩
  · unfold VM.syncE
    rw [stepE_on up.off up.ne]
    unfold withE
    rw [if_pos h0]
  · rw [es]
    show ffind ((fset u.fs m ⟨f.now, f.now, []⟩).filter fun p => decide (p.1 ∈ u.fd.live)) y = _
    rw [ffind_filter (fun y => decide (y ∈ u.fd.live)), if_pos (decide_eq_true hy), ffind_fset, hf]
    simp
/-- How many names have been made safe. -/
structure SyS (v : VM) (n B k : Nat) where
  i : Nat
  hi : i ≤ v.list.length
  u : VM
  ok : u.Ok n B (k + i)
  up : u.Up
  fd : u.fd = v.fd
  nows : ∀ p ∈ v.fd.now, (ffind u.fs p.2).map FI.now = (ffind v.fs p.2).map FI.now
  done : ∀ j, j < i → ∀ m f, afind v.fd.now (v.list.getD j []) = some m → ffind u.fs m = some f → f.Still
theorem SyS.step {v : VM} {n B k : Nat} (hv : v.Ok n B k) (hup : v.Up) (s : SyS v n B k) (hl : s.i < v.list.length) : s.u.syncE (v.list.getD s.i []) = 0 ∧ ∃ s' : SyS v n B k, s'.i = s.i + 1 ∧ s'.u = s.u.sync (v.list.getD s.i []) := by
  have hx : v.list.getD s.i [] ∈ v.list := by simp [List.getD, hl]
  obtain ⟨m, f0, h1, h2, h3, _, h5⟩ := hv.named ((list_mem hup.off).1 hx)
  obtain ⟨e0, e1, f, e2, e3⟩ := sync_find s.ok s.up h5 (by rw [s.fd]; exact h2)
  have hlive : ∀ p ∈ v.fd.now, p.2 ∈ s.u.fd.live := fun p hp => by rw [s.fd]; exact hv.liveNow p hp
  refine ⟨e0, ⟨s.i + 1, hl, s.u.sync (v.list.getD s.i []), (s.ok.sync _).more (Nat.le_refl _) (Nat.le_refl _) (by omega), s.up.step (s.up.tick.withV _ _), e1.trans s.fd, fun p hp => ?_, fun j hj m' f' hm' hf' => ?_⟩, rfl, rfl⟩
  · rw [e3 _ (hlive p hp)]
    split
    · rename_i e
      rw [← s.nows p hp, e, e2]
      rfl
    · exact s.nows p hp
  · have hm2 : m' ∈ s.u.fd.live := hlive (v.list.getD j [], m') (afind_mem hm')
    rw [e3 _ hm2] at hf'
    split at hf'
    · injection hf' with hf'
      subst hf'
      exact ⟨rfl, rfl⟩
    · rename_i hne
      rcases Nat.lt_succ_iff_lt_or_eq.1 hj with g | g
      · exact s.done j g m' f' hm' hf'
      · subst g
        rw [h2] at hm'
        injection hm' with hm'
        exact absurd hm'.symm hne
/-- All names are safe: the file system is at rest behind SyncDir. -/
theorem SyS.dir {v : VM} {n B k : Nat} (hv : v.Ok n B k) (hup : v.Up) (s : SyS v n B k) (he : s.i = v.list.length) : s.u.syncDirE = 0 ∧ s.u.syncDir.Quiet ∧ s.u.syncDir.Up ∧ s.u.syncDir.stL = v.stL := by
  have es : s.u.syncDir = (s.u.tick.syncDir1).clean := stepV_on s.up.off s.up.ne _
  have hok := s.ok.syncDir
  have hnow : s.u.syncDir.fd.now = v.fd.now := by rw [es]; show s.u.fd.now = _; rw [s.fd]
  have hup2 : s.u.syncDir.Up := s.up.step (d := VM.syncDir1) ⟨s.up.tick.off, s.up.tick.fuse⟩
  have hf : ∀ p ∈ v.fd.now, ffind s.u.syncDir.fs p.2 = ffind s.u.fs p.2 := fun p hp => by
    have hl := hok.liveNow p (by rw [hnow]; exact hp)
    rw [es] at hl ⊢
    show ffind (s.u.fs.filter fun p => decide (p.1 ∈ s.u.fd.synced.live)) p.2 = _
    rw [ffind_filter (fun y => decide (y ∈ s.u.fd.synced.live)), if_pos (decide_eq_true (show p.2 ∈ s.u.fd.synced.live from hl))]
  refine ⟨stepE_on s.up.off s.up.ne _, ⟨by rw [es]; rfl, fun p hp f hpf => ?_⟩, hup2, ?_⟩
  · rw [hnow] at hp
    rw [hf p hp] at hpf
    have hx : p.1 ∈ v.list := (list_mem hup.off).2 (List.mem_map_of_mem hp)
    obtain ⟨j, hj, e⟩ := List.getElem_of_mem hx
    refine s.done j (by omega) p.2 f ?_ hpf
    rw [show v.list.getD j [] = p.1 by simp [List.getD, hj, e]]
    exact afind_of_mem hv.fd.now.1.nd hp
  · exact stL_congr hv hok hup.off hup2.off hnow fun p hp => by rw [hf p hp]; exact s.nows p hp
/-! Names that were there. -/
def seenL (N : List (List UInt8 × Unit)) (L : List (List UInt8)) : List (List UInt8 × Unit) := L.foldl (fun N x => aput N x ()) N
theorem seenL_succ (N : List (List UInt8 × Unit)) {L : List (List UInt8)} {i : Nat} (h : i < L.length) : seenL N (L.take (i + 1)) = aput (seenL N (L.take i)) (L.getD i []) () := by
  unfold seenL
  rw [List.take_add_one, List.getElem?_eq_getElem h, List.foldl_append]
  simp [List.getD, h]
theorem seenL_mem : ∀ (L : List (List UInt8)) (N : List (List UInt8 × Unit)) (x : List UInt8), x ∈ (seenL N L).map (·.1) ↔ x ∈ N.map (·.1) ∨ x ∈ L
  | [], N, x => by simp [seenL]
  | y :: L, N, x => by
    have e : seenL N (y :: L) = seenL (aput N y ()) L := rfl
    rw [e, seenL_mem L, keys_aput]
    by_cases h : y ∈ N.map (·.1)
    · rw [if_pos h]
      constructor
      · rintro (h1 | h1)
        · exact .inl h1
        · exact .inr (List.mem_cons_of_mem _ h1)
      · rintro (h1 | h1)
        · exact .inl h1
        · rcases List.mem_cons.1 h1 with h2 | h2
          · subst h2; exact .inl h
          · exact .inr h2
    · rw [if_neg h, List.mem_append, List.mem_singleton, List.mem_cons, or_assoc]
/-- What a call does to the names. -/
theorem create_fd {v : VM} (hu : v.Up) (x : List UInt8) : (v.create x).fd = v.fd.create x := by
  unfold VM.create
  rw [stepV_on hu.off hu.ne]
  show (v.tick.create1 x).fd = _
  unfold VM.create1
  split
  · rfl
  · rename_i h
    exact (create_no (f := v.fd) h).2.symm
theorem withV_fd (x : List UInt8) (d : VM → FI → FI) (v : VM) : (withV x d v).fd = v.fd := by
  unfold withV
  split <;> rfl
theorem does_fdIn {P Q : NM → Prop} {v : VM} (hu : v.Up) (hP : v.fd.In P) {a : FAct} (h9 : a.what ≠ 9) (h11 : a.what ≠ 11) (hPQ : a.what ≠ 5 → ∀ m, P m → Q m) (hQ : Q (v.does a).fd.now) : (v.does a).fd.In Q := by
  unfold VM.does at hQ ⊢
  split
  · rename_i g
    rw [if_pos g, create_fd hu] at hQ
    rw [create_fd hu]
    have hm := hP.mono (hPQ (by rw [g]; decide))
    unfold FD.create at hQ ⊢
    split
    · rename_i h0
      rw [if_pos h0] at hQ
      exact hm.did2 (fun _ h => h) (D := .mk a.name (v.fd.last + 1)) hQ _
    · exact hm
  · rename_i g
    rw [if_neg g] at hQ
    split
    · rename_i g1
      have h5 : a.what ≠ 5 := fun e => by rcases g1 with g1 | g1 <;> omega
      unfold VM.append
      rw [stepV_on hu.off hu.ne]
      show (withV _ _ v.tick).fd.In Q
      rw [withV_fd]
      exact hP.mono (hPQ h5)
    · rename_i g1
      rw [if_neg g1] at hQ
      split
      · rename_i g2
        unfold VM.trunc
        rw [stepV_on hu.off hu.ne]
        show (withV _ _ v.tick).fd.In Q
        rw [withV_fd]
        exact hP.mono (hPQ (by rw [g2]; decide))
      · rename_i g2
        rw [if_neg g2] at hQ
        split
        · rename_i g3
          unfold VM.sync
          rw [stepV_on hu.off hu.ne]
          show (withV _ _ v.tick).fd.In Q
          rw [withV_fd]
          exact hP.mono (hPQ (by rw [g3]; decide))
        · rename_i g3
          rw [if_neg g3] at hQ
          split
          · rename_i g4
            rw [if_pos g4] at hQ
            unfold VM.syncDir at hQ ⊢
            rw [stepV_on hu.off hu.ne] at hQ ⊢
            refine ⟨rfl, fun j _ => ?_⟩
            show Q (onAll v.fd.now (List.take j []))
            rw [List.take_nil]
            exact hQ
          · rename_i g4
            rw [if_neg g4] at hQ
            have hm := hP.mono (hPQ g4)
            split
            · rename_i g5
              rw [if_pos g5] at hQ
              unfold VM.rename at hQ ⊢
              rw [stepV_on hu.off hu.ne] at hQ ⊢
              have hQ : Q (v.fd.ren a.name a.to).now := hQ
              show (v.fd.ren a.name a.to).In Q
              unfold FD.ren at hQ ⊢
              split
              · rename_i h0
                rw [if_pos h0] at hQ
                exact hm.did2 (fun _ h => h) (D := .mv a.name a.to (v.fd.findN a.name)) hQ _
              · exact hm
            · rename_i g5
              rw [if_neg g5] at hQ
              split
              · rename_i g6
                rw [if_pos g6] at hQ
                unfold VM.remove at hQ ⊢
                rw [stepV_on hu.off hu.ne] at hQ ⊢
                have hQ : Q (v.fd.rem a.name).now := hQ
                show (v.fd.rem a.name).In Q
                unfold FD.rem at hQ ⊢
                split
                · rename_i h0
                  rw [if_pos h0] at hQ
                  exact hm.did2 (fun _ h => h) (D := .rm a.name) hQ _
                · exact hm
              · exact hm
end Go.Proofs.YtpgdbeacmlojcaaGreat.Ax
