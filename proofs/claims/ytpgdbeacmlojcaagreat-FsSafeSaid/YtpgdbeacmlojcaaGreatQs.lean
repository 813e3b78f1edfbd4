/-
  Chapter 07: crashes and safety: the laws' walks.
-/
import Derived.Test.YtpgdbeacmlojcaaGreatJf
namespace Go.Proofs.YtpgdbeacmlojcaaGreat.Ax
open Go.RowKit
set_option maxRecDepth 100000
theorem csN_find : ∀ (l : List Nat) (P : List Int) (fs : List (Nat × FI)) (x : Nat), l.Nodup → ∃ K : Nat, ffind (csN P fs l).2 x = (ffind fs x).map fun f => if x ∈ l then f.crash K else f
  | [], P, fs, x, _ => ⟨0, by simp [csN]⟩
  | y :: l, P, fs, x, hn => by
    rw [List.nodup_cons] at hn
    obtain ⟨K, hK⟩ := csN_find l P.tail (fset fs y (((ffind fs y).getD ⟨[], [], []⟩).crash (pickN P (fl ((ffind fs y).getD ⟨[], [], []⟩).ds)))) x hn.2
    have e : csN P fs (y :: l) = csN P.tail (fset fs y (((ffind fs y).getD ⟨[], [], []⟩).crash (pickN P (fl ((ffind fs y).getD ⟨[], [], []⟩).ds)))) l := rfl
    rw [e]
    by_cases hx : x = y
    · subst hx
      rw [hK, ffind_fset]
      cases hf : ffind fs x with
      | none => exact ⟨0, by simp⟩
      | some f => exact ⟨pickN P (fl f.ds), by simp [hn.1]⟩
    · refine ⟨K, ?_⟩
      rw [hK, ffind_fset, if_neg fun h => hx h.1]
      congr 1
      funext f
      simp [hx]
/-- A file at rest. -/
structure FI.Still (f : FI) : Prop where
  ds : f.ds = []
  safe : f.safe = f.now
theorem still_crash {f : FI} (h : f.Still) (K : Nat) : (f.crash K).now = f.now := by
  unfold FI.crash
  rw [h.ds]
  exact h.safe
theorem crash_still (f : FI) (K : Nat) : (f.crash K).Still := ⟨rfl, rfl⟩
/-- A file system at rest. -/
structure VM.Quiet (v : VM) : Prop where
  ds : v.fd.ds = []
  files : ∀ p ∈ v.fd.now, ∀ f, ffind v.fs p.2 = some f → f.Still
section
variable {n B k : Nat} {v : VM} (h : v.Ok n B k)
include h
theorem VM.Ok.liveNow : ∀ p ∈ v.fd.now, p.2 ∈ v.fd.live := fun p hp =>
  live_mem.2 ⟨v.fd.ds.length, Nat.le_refl _, by rw [List.take_length, ← h.fd.eq]; exact List.mem_map_of_mem hp⟩
omit h in
theorem crash_find (P : List Int) {x : Nat} (hx : x ∈ (v.crash P).fd.live) : ∃ K : Nat, ffind (v.crash P).fs x = (ffind v.fs x).map fun f => f.crash K := by
  have hx : x ∈ (v.crash1 P).fd.live := hx
  obtain ⟨K, hK⟩ := csN_find (v.crash1 P).fd.live P.tail (v.crash1 P).fs x ((live_lt _).imp fun h => Nat.ne_of_lt h)
  refine ⟨K, ?_⟩
  have e : (v.crash P).fs = (csN P.tail (v.crash1 P).fs (v.crash1 P).fd.live).2 := rfl
  rw [e, hK]
  have e2 : ffind (v.crash1 P).fs x = ffind v.fs x := by
    show ffind (v.fs.filter fun p => decide (p.1 ∈ (v.crash1 P).fd.live)) x = _
    rw [ffind_filter (fun y => decide (y ∈ (v.crash1 P).fd.live)), if_pos (decide_eq_true hx)]
  rw [e2]
  congr 1
  funext f
  rw [if_pos hx]
theorem crash_quiet (P : List Int) : (v.crash P).Quiet := by
  refine ⟨rfl, fun p hp f hf => ?_⟩
  obtain ⟨K, hK⟩ := crash_find P ((h.crash P).liveNow p hp)
  rw [hK] at hf
  obtain ⟨g, _, rfl⟩ := Option.map_eq_some_iff.1 hf
  exact crash_still g K
theorem quiet_now (q : v.Quiet) (P : List Int) : (v.crash P).fd.now = v.fd.now := by
  have h1 := h.fd.eq
  rw [q.ds] at h1
  show onAll v.fd.safe (v.fd.ds.take _) = _
  rw [q.ds, List.take_nil, h1]
theorem quiet_crash (q : v.Quiet) (ho : v.off = false) (P : List Int) : (v.crash P).stL = v.stL := by
  refine stL_congr h (h.crash P) ho rfl (quiet_now h q P) fun p hp => ?_
  obtain ⟨K, hK⟩ := crash_find P ((h.crash P).liveNow p (by rw [quiet_now h q P]; exact hp))
  rw [hK]
  cases hf : ffind v.fs p.2 with
  | none => rfl
  | some f =>
    simp only [Option.map_some]
    rw [still_crash (q.files p hp f hf) K]
end
/-! One file is made safe. -/
theorem sync_find {n B k : Nat} {u : VM} (h : u.Ok n B k) (up : u.Up) {x : List UInt8} {m : Nat} (hm : mayB x = true) (hx : afind u.fd.now x = some m) : u.syncE x = 0 ∧ (u.sync x).fd = u.fd ∧ ∃ f, ffind u.fs m = some f ∧ ∀ y ∈ u.fd.live, ffind (u.sync x).fs y = if y = m then some ⟨f.now, f.now, []⟩ else ffind u.fs y := by
  obtain ⟨f, hf⟩ := h.led x m hx
  have h0 : u.tick.findE x = 0 := findE_yes hm hx
  have ef : u.tick.file x = f := file_of hx hf
  have en : u.tick.fd.findN x = m := by
    show (afind u.fd.now x).getD 0 = m
    rw [hx]
    rfl
  have es : u.sync x = VM.clean { u.tick with fs := fset u.fs m ⟨f.now, f.now, []⟩ } := by
    unfold VM.sync
    rw [stepV_on up.off up.ne]
    unfold withV
    rw [if_pos h0, en, ef]
    rfl
  refine ⟨?_, by rw [es]; rfl, f, hf, fun y hy => ?_⟩
  · unfold VM.syncE
    rw [stepE_on up.off up.ne]
    unfold withE
    rw [if_pos h0]
  · rw [es]
    show ffind ((fset u.fs m ⟨f.now, f.now, []⟩).filter fun p => decide (p.1 ∈ u.fd.live)) y = _
    rw [ffind_filter (fun y => decide (y ∈ u.fd.live)), if_pos (decide_eq_true hy), ffind_fset, hf]
    simp
/-- How many names have been made safe. -/
structure SyS (v : VM) (n B k : Nat) where
  i : Nat
  hi : i ≤ v.list.length
  u : VM
  ok : u.Ok n B (k + i)
  up : u.Up
  fd : u.fd = v.fd
  nows : ∀ p ∈ v.fd.now, (ffind u.fs p.2).map FI.now = (ffind v.fs p.2).map FI.now
  done : ∀ j, j < i → ∀ m f, afind v.fd.now (v.list.getD j []) = some m → ffind u.fs m = some f → f.Still
theorem SyS.step {v : VM} {n B k : Nat} (hv : v.Ok n B k) (hup : v.Up) (s : SyS v n B k) (hl : s.i < v.list.length) : s.u.syncE (v.list.getD s.i []) = 0 ∧ ∃ s' : SyS v n B k, s'.i = s.i + 1 ∧ s'.u = s.u.sync (v.list.getD s.i []) := by
  have hx : v.list.getD s.i [] ∈ v.list := by simp [List.getD, hl]
  obtain ⟨m, f0, h1, h2, h3, _, h5⟩ := hv.named ((list_mem hup.off).1 hx)
  obtain ⟨e0, e1, f, e2, e3⟩ := sync_find s.ok s.up h5 (by rw [s.fd]; exact h2)
  have hlive : ∀ p ∈ v.fd.now, p.2 ∈ s.u.fd.live := fun p hp => by rw [s.fd]; exact hv.liveNow p hp
  refine ⟨e0, ⟨s.i + 1, hl, s.u.sync (v.list.getD s.i []), (s.ok.sync _).more (Nat.le_refl _) (Nat.le_refl _) (by omega), s.up.step (s.up.tick.withV _ _), e1.trans s.fd, fun p hp => ?_, fun j hj m' f' hm' hf' => ?_⟩, rfl, rfl⟩
  · rw [e3 _ (hlive p hp)]
    split
    · rename_i e
      rw [← s.nows p hp, e, e2]
      rfl
    · exact s.nows p hp
  · have hm2 : m' ∈ s.u.fd.live := hlive (v.list.getD j [], m') (afind_mem hm')
    rw [e3 _ hm2] at hf'
    split at hf'
    · injection hf' with hf'
      subst hf'
      exact ⟨rfl, rfl⟩
    · rename_i hne
      rcases Nat.lt_succ_iff_lt_or_eq.1 hj with g | g
      · exact s.done j g m' f' hm' hf'
      · subst g
        rw [h2] at hm'
        injection hm' with hm'
        exact absurd hm'.symm hne
/-- All names are safe: the file system is at rest behind SyncDir. -/
theorem SyS.dir {v : VM} {n B k : Nat} (hv : v.Ok n B k) (hup : v.Up) (s : SyS v n B k) (he : s.i = v.list.length) : s.u.syncDirE = 0 ∧ s.u.syncDir.Quiet ∧ s.u.syncDir.Up ∧ s.u.syncDir.stL = v.stL := by
  have es : s.u.syncDir = (s.u.tick.syncDir1).clean := stepV_on s.up.off s.up.ne _
  have hok := s.ok.syncDir
  have hnow : s.u.syncDir.fd.now = v.fd.now := by rw [es]; show s.u.fd.now = _; rw [s.fd]
  have hup2 : s.u.syncDir.Up := s.up.step (d := VM.syncDir1) ⟨s.up.tick.off, s.up.tick.fuse⟩
  have hf : ∀ p ∈ v.fd.now, ffind s.u.syncDir.fs p.2 = ffind s.u.fs p.2 := fun p hp => by
    have hl := hok.liveNow p (by rw [hnow]; exact hp)
    rw [es] at hl ⊢
    show ffind (s.u.fs.filter fun p => decide (p.1 ∈ s.u.fd.synced.live)) p.2 = _
    rw [ffind_filter (fun y => decide (y ∈ s.u.fd.synced.live)), if_pos (decide_eq_true (show p.2 ∈ s.u.fd.synced.live from hl))]
  refine ⟨stepE_on s.up.off s.up.ne _, ⟨by rw [es]; rfl, fun p hp f hpf => ?_⟩, hup2, ?_⟩
  · rw [hnow] at hp
    rw [hf p hp] at hpf
    have hx : p.1 ∈ v.list := (list_mem hup.off).2 (List.mem_map_of_mem hp)
    obtain ⟨j, hj, e⟩ := List.getElem_of_mem hx
    refine s.done j (by omega) p.2 f ?_ hpf
    rw [show v.list.getD j [] = p.1 by simp [List.getD, hj, e]]
    exact afind_of_mem hv.fd.now.1.nd hp
  · exact stL_congr hv hok hup.off hup2.off hnow fun p hp => by rw [hf p hp]; exact s.nows p hp
/-! Names that were there. -/
def seenL (N : List (List UInt8 × Unit)) (L : List (List UInt8)) : List (List UInt8 × Unit) := L.foldl (fun N x => aput N x ()) N
theorem seenL_succ (N : List (List UInt8 × Unit)) {L : List (List UInt8)} {i : Nat} (h : i < L.length) : seenL N (L.take (i + 1)) = aput (seenL N (L.take i)) (L.getD i []) () := by
  unfold seenL
  rw [List.take_add_one, List.getElem?_eq_getElem h, List.foldl_append]
  simp [List.getD, h]
theorem seenL_mem : ∀ (L : List (List UInt8)) (N : List (List UInt8 × Unit)) (x : List UInt8), x ∈ (seenL N L).map (·.1) ↔ x ∈ N.map (·.1) ∨ x ∈ L
  | [], N, x => by simp [seenL]
  | y :: L, N, x => by
    have e : seenL N (y :: L) = seenL (aput N y ()) L := rfl
    rw [e, seenL_mem L, keys_aput]
    by_cases h : y ∈ N.map (·.1)
    · rw [if_pos h]
      constructor
      · rintro (h1 | h1)
        · exact .inl h1
        · exact .inr (List.mem_cons_of_mem _ h1)
      · rintro (h1 | h1)
        · exact .inl h1
        · rcases List.mem_cons.1 h1 with h2 | h2
          · subst h2; exact .inl h
          · exact .inr h2
    · rw [if_neg h, List.mem_append, List.mem_singleton, List.mem_cons, or_assoc]
/-- What a call does to the names. -/
theorem create_fd {v : VM} (hu : v.Up) (x : List UInt8) : (v.create x).fd = v.fd.create x := by
  unfold VM.create
  rw [stepV_on hu.off hu.ne]
  show (v.tick.create1 x).fd = _
  unfold VM.create1
  split
  · rfl
  · rename_i h
    exact (create_no (f := v.fd) h).2.symm
theorem withV_fd (x : List UInt8) (d : VM → FI → FI) (v : VM) : (withV x d v).fd = v.fd := by
  unfold withV
  split <;> rfl
theorem does_fdIn {P Q : NM → Prop} {v : VM} (hu : v.Up) (hP : v.fd.In P) {a : FAct} (h9 : a.what ≠ 9) (h11 : a.what ≠ 11) (hPQ : a.what ≠ 5 → ∀ m, P m → Q m) (hQ : Q (v.does a).fd.now) : (v.does a).fd.In Q := by
  unfold VM.does at hQ ⊢
  split
  · rename_i g
    rw [if_pos g, create_fd hu] at hQ
    rw [create_fd hu]
    have hm := hP.mono (hPQ (by rw [g]; decide))
    unfold FD.create at hQ ⊢
    split
    · rename_i h0
      rw [if_pos h0] at hQ
      exact hm.did2 (fun _ h => h) (D := .mk a.name (v.fd.last + 1)) hQ _
    · exact hm
  · rename_i g
    rw [if_neg g] at hQ
    split
    · rename_i g1
      have h5 : a.what ≠ 5 := fun e => by rcases g1 with g1 | g1 <;> omega
      unfold VM.append
      rw [stepV_on hu.off hu.ne]
      show (withV _ _ v.tick).fd.In Q
      rw [withV_fd]
      exact hP.mono (hPQ h5)
    · rename_i g1
      rw [if_neg g1] at hQ
      split
      · rename_i g2
        unfold VM.trunc
        rw [stepV_on hu.off hu.ne]
        show (withV _ _ v.tick).fd.In Q
        rw [withV_fd]
        exact hP.mono (hPQ (by rw [g2]; decide))
      · rename_i g2
        rw [if_neg g2] at hQ
        split
        · rename_i g3
          unfold VM.sync
          rw [stepV_on hu.off hu.ne]
          show (withV _ _ v.tick).fd.In Q
          rw [withV_fd]
          exact hP.mono (hPQ (by rw [g3]; decide))
        · rename_i g3
          rw [if_neg g3] at hQ
          split
          · rename_i g4
            rw [if_pos g4] at hQ
            unfold VM.syncDir at hQ ⊢
            rw [stepV_on hu.off hu.ne] at hQ ⊢
            refine ⟨rfl, fun j _ => ?_⟩
            show Q (onAll v.fd.now (List.take j []))
            rw [List.take_nil]
            exact hQ
          · rename_i g4
            rw [if_neg g4] at hQ
            have hm := hP.mono (hPQ g4)
            split
            · rename_i g5
              rw [if_pos g5] at hQ
              unfold VM.rename at hQ ⊢
              rw [stepV_on hu.off hu.ne] at hQ ⊢
              have hQ : Q (v.fd.ren a.name a.to).now := hQ
              show (v.fd.ren a.name a.to).In Q
              unfold FD.ren at hQ ⊢
              split
              · rename_i h0
                rw [if_pos h0] at hQ
                exact hm.did2 (fun _ h => h) (D := .mv a.name a.to (v.fd.findN a.name)) hQ _
              · exact hm
            · rename_i g5
              rw [if_neg g5] at hQ
              split
              · rename_i g6
                rw [if_pos g6] at hQ
                unfold VM.remove at hQ ⊢
                rw [stepV_on hu.off hu.ne] at hQ ⊢
                have hQ : Q (v.fd.rem a.name).now := hQ
                show (v.fd.rem a.name).In Q
                unfold FD.rem at hQ ⊢
                split
                · rename_i h0
                  rw [if_pos h0] at hQ
                  exact hm.did2 (fun _ h => h) (D := .rm a.name) hQ _
                · exact hm
              · exact hm
end Go.Proofs.YtpgdbeacmlojcaaGreat.Ax

namespace Go.Proofs.YtpgdbeacmlojcaaGreat.Ax
open Go.RowKit
set_option maxRecDepth 100000
def oneI (_ : Unit) : IV := .v (.int .i64 1)
theorem mput_oneI (l : List (List UInt8 × Unit)) (s : List UInt8) : mput (smap oneI l) (.s s) (.v (.int .i64 1)) = smap oneI (aput l s ()) := mput_smap oneI s () l
theorem maskTo_len (P : List Int) (i : Nat) : (maskTo P i).length = P.length := by
  unfold maskTo
  rw [List.length_append, List.length_map, List.length_take, List.length_drop]
  omega
theorem maskTo_get (P : List Int) {i : Nat} (h : i < P.length) (j : Nat) : (maskTo P (i + 1)).getD j 0 = if j = i then mask (P.getD i 0) else (maskTo P i).getD j 0 := by
  unfold maskTo
  simp only [List.getD_eq_getElem?_getD, List.getElem?_append, List.length_map, List.length_take]
  by_cases h1 : j = i
  · subst h1
    rw [if_pos rfl, if_pos (by omega)]
    simp [h]
  · rw [if_neg h1]
    by_cases h2 : j < i
    · rw [if_pos (by omega), if_pos (by omega)]
      simp [h2, show j < i + 1 by omega]
    · rw [if_neg (by omega), if_neg (by omega)]
      simp only [List.getElem?_drop]
      congr 2
      omega
theorem maskTo_at (P : List Int) {i : Nat} : (maskTo P i).getD i 0 = P.getD i 0 := by
  unfold maskTo
  rw [List.getD_eq_getElem?_getD, List.getElem?_append_right (by rw [List.length_map, List.length_take]; omega), List.length_map, List.length_take, List.getElem?_drop]
  rcases Nat.lt_or_ge i P.length with h | h
  · rw [show i + (i - min i P.length) = i by omega]
    rfl
  · rw [List.getElem?_eq_none (by omega), List.getD_eq_getElem?_getD, List.getElem?_eq_none h]
/-- A cell of such a row is masked. -/
theorem mask_row {e : Nat} (P : List Int) {y : Nat} (h : y < P.length) : ChE (.rowc e 1 P.length fun j => if j = 0 + ((y : Nat) : Int).toNat then layI (iF (maskTo P y) (0 + ((y : Nat) : Int).toNat)) 0 [IV.v (.int .i64 (bitK .and .i64 ((maskTo P y).getD (0 + ((y : Nat) : Int).toNat) 0) 1073741823))] else iF (maskTo P y) j) (.rowc e 1 P.length (iF (maskTo P (y + 1)))) := by
  refine ChE.row (Nat.le_refl _) fun j hj => ?_
  have e1 : 0 + ((y : Nat) : Int).toNat = y := by omega
  rw [e1]
  unfold iF
  rw [maskTo_get P h]
  by_cases g : j = y
  · subst g
    rw [if_pos rfl, if_pos rfl, maskTo_at]
    rfl
  · rw [if_neg g, if_neg g]
def maskAll (P : List Int) : List Int := P.map mask
theorem maskTo_all (P : List Int) : maskTo P P.length = maskAll P := by
  unfold maskTo maskAll
  rw [List.take_length, List.drop_length, List.append_nil]
theorem maskAll_ok (P : List Int) : (maskAll P).any (fun p => decide (p < 0)) = false := by
  rw [List.any_eq_false]
  intro p hp
  obtain ⟨q, _, rfl⟩ := List.mem_map.1 hp
  have := (mask_le q).1
  simp
  exact this
theorem maskAll_len (P : List Int) : (maskAll P).length = P.length := by simp [maskAll]
/-- How far the calls have come; the names that were there. -/
structure CrX (l : List FAct) where
  i : Nat
  v : VM
  N : List (List UInt8 × Unit)
  ok : v.Ok i (60 * i) i
  up : v.Up
  seen : v.fd.In fun m => ∀ p ∈ m, p.1 ∈ N.map (·.1)
  hi : i ≤ 60
  hil : i ≤ l.length
theorem new_seen (q : Int) (P : NM → Prop) (h : P []) : (VM.new q).fd.In P := ⟨rfl, fun j _ => by
  have : onAll (VM.new q).fd.safe ((VM.new q).fd.ds.take j) = [] := by simp [VM.new, onAll]
  rw [this]
  exact h⟩
/-- The names behind a call. -/
theorem seen_next {n B k : Nat} {v : VM} (_h : v.Ok n B k) (hu : v.Up) {N : List (List UInt8 × Unit)} (hs : v.fd.In fun m => ∀ p ∈ m, p.1 ∈ N.map (·.1)) {a : FAct} (h9 : a.what ≠ 9) (h11 : a.what ≠ 11) {N0 : List (List UInt8 × Unit)} (h0 : a.what ≠ 5 → N0 = N) :
    (v.does a).fd.In fun m => ∀ p ∈ m, p.1 ∈ (seenL N0 (v.does a).list).map (·.1) := by
  refine does_fdIn hu hs h9 h11 (fun h5 m hm p hp => ?_) fun p hp => ?_
  · rw [h0 h5, seenL_mem]
    exact .inl (hm p hp)
  · rw [seenL_mem]
    exact .inr ((list_mem (hu.does h9).off).2 (List.mem_map_of_mem hp))
set_option maxHeartbeats 4000000 in
theorem crashes_law (l : List FAct) (hl : ∀ a ∈ l, a.Ok) (P M : List Int) (hPl : P.length ≤ 17592186044416) (hMl : M.length ≤ 17592186044416) : Law Go.Proofs.Tryz.prog 4 [rowA l, .iv (iRow P), .iv (iRow M)] := by
  refine ACall.fin ?_
  refine ACall.walkF (C := cfgRf 157 0) (cfgRfOk _ _) [] (fn := Go.Proofs.Tryz.f4) (by kernel_rfl) (by kernel_rfl) rfl (by kernel_rfl) (by kernel_rfl) rfl rfl fun hlen hheap => ?_
  obtain ⟨hl1, _⟩ := hlen
  simp only [lenF] at hl1
  (conv => whnf); repeat (refine sideI ?_; conv => whnf)
  refine AFn.useA [] (new_fs 1073741824 (by decide)) fun _ => ?_
  (conv => whnf); repeat (refine sideI ?_; conv => whnf)
  refine AFn.useA [] (wakes_ok) fun _ => ?_
  (conv => whnf); repeat (refine sideI ?_; conv => whnf)
  refine AWP.merge (Y := CrX l) (fun y => [(1, .iv (iRow P)), (2, .iv (iRow M)), (7, .ptr 0 0), (9, .mp 1)]) (fun y => ⟨2, [(0, .sem (fsV y.v)), (1, .map none (smap oneI y.N))]⟩) 0 (fun y => ?_) ?_
  · obtain ⟨i, v, N, ok, up, seen, hi, hil⟩ := y
    have ok : v.Ok 60 3600 60 := ok.more (by omega) (by omega) (by omega)
    (conv => whnf); repeat (refine sideI ?_; conv => whnf)
    refine AFn.useA [] (iclone_ok P hPl) fun _ => ?_
    (conv => whnf); repeat (refine sideI ?_; conv => whnf)
    refine AFn.useA [] (iclone_ok M hMl) fun _ => ?_
    (conv => whnf); repeat (refine sideI ?_; conv => whnf)
    refine AWP.loop (X := { y : Nat // y ≤ P.length }) (fun y => [(1, .row 2 1 0 P.length), (2, .row 3 1 0 M.length), (7, .ptr 0 0), (9, .mp 1), (74, AV.int .i64 P.length), (75, AV.int .i64 y.1)]) (fun y => ⟨4, [(0, .sem (fsV v)), (1, .map none (smap oneI N)), (2, .rowc 3 1 P.length (iF (maskTo P y.1))), (3, .rowc 3 1 M.length (iF M))]⟩) (fun y => P.length - y.1) (⟨0, Nat.zero_le _⟩) ?_ fun y => AWP.go (S := []) (cfgRfOk _ _) (.of_eq (by kernel_rfl)) ?_
    · exact Ent.mkA [some 0, some 1, some 2, some 3]
    · obtain ⟨y, hy⟩ := y
      (conv => whnf); repeat (refine sideI ?_; conv => whnf)
      refine branchB_of (fun g1 => ?_) (fun g1 => ?_) <;> (first | replace g1 := not_t g1 | replace g1 := not_f g1 | skip) <;> (first | replace g1 := of_decide_eq_true g1 | replace g1 := of_decide_eq_false g1 | skip) <;> (first | replace g1 := Classical.not_not.1 g1 | skip) <;> (try dsimp only at g1)
      · have hyl : y < P.length := by omega
        (conv => whnf); repeat (refine sideI ?_; conv => whnf)
        refine ⟨⟨y + 1, hyl⟩, Ent.mkC [some 0, some 1, some 2, some 3] ?_, ?_⟩
        · exact ⟨⟨_, rfl, ChE.refl _⟩, ⟨_, rfl, ChE.refl _⟩, ⟨_, rfl, mask_row P hyl⟩, ⟨_, rfl, ChE.refl _⟩, trivial⟩
        · show P.length - (y + 1) < P.length - y
          omega
      · have hye : y = P.length := by omega
        subst hye
        (conv => whnf); repeat (refine sideI ?_; conv => whnf)
        refine AWP.loop (X := { z : Nat // z ≤ M.length }) (fun z => [(1, .iv (iRow (maskAll P))), (2, .row 2 1 0 M.length), (7, .ptr 0 0), (9, .mp 1), (86, AV.int .i64 M.length), (87, AV.int .i64 z.1)]) (fun z => ⟨3, [(0, .sem (fsV v)), (1, .map none (smap oneI N)), (2, .rowc 3 1 M.length (iF (maskTo M z.1)))]⟩) (fun z => M.length - z.1) (⟨0, Nat.zero_le _⟩) ?_ fun z => AWP.go (S := []) (cfgRfOk _ _) (.of_eq (by kernel_rfl)) ?_
        · refine (Ent.freeze 2 _ rfl rfl (e' := [(1, .iv (.sl 1 P.length (iF (maskTo P P.length)))), (2, .row 3 1 0 M.length), (7, .ptr 0 0), (9, .mp 1), (86, AV.int .i64 M.length), (87, AV.int .i64 0)]) ?_).trans (Ent.mk' [some 0, some 1, some 3] (by kernel_rfl) ?_ ?_)
          · exact ⟨AVF.sl (Nat.le_refl _), AVF.same .., AVF.same .., AVF.same .., AVF.same .., AVF.same .., trivial⟩
          · refine ⟨AVE.of_eq ?_, AVE.refl _, AVE.refl _, AVE.refl _, AVE.refl _, AVE.refl _, trivial⟩
            show AV.iv (.sl 1 P.length (iF (maskTo P P.length))) = AV.iv (.sl 1 (maskAll P).length (iF (maskAll P)))
            rw [maskTo_all, maskAll_len]
          · exact subC
        · obtain ⟨z, hz⟩ := z
          (conv => whnf); repeat (refine sideI ?_; conv => whnf)
          refine branchB_of (fun g2 => ?_) (fun g2 => ?_) <;> (first | replace g2 := not_t g2 | replace g2 := not_f g2 | skip) <;> (first | replace g2 := of_decide_eq_true g2 | replace g2 := of_decide_eq_false g2 | skip) <;> (first | replace g2 := Classical.not_not.1 g2 | skip) <;> (try dsimp only at g2)
          · have hzl : z < M.length := by omega
            (conv => whnf); repeat (refine sideI ?_; conv => whnf)
            refine ⟨⟨z + 1, hzl⟩, Ent.mkC [some 0, some 1, some 2] ?_, ?_⟩
            · exact ⟨⟨_, rfl, ChE.refl _⟩, ⟨_, rfl, ChE.refl _⟩, ⟨_, rfl, mask_row M hzl⟩, trivial⟩
            · show M.length - (z + 1) < M.length - z
              omega
          · have hze : z = M.length := by omega
            subst hze
            (conv => whnf); repeat (refine sideI ?_; conv => whnf)
            refine AFn.useA [0] (state_ok ok (by omega) (by omega)) fun _ => ?_
            (conv => whnf); repeat (refine sideI ?_; conv => whnf)
            refine AFn.useA [0] (fsCopy ok (by omega) (by omega)) fun _ => ?_
            (conv => whnf); repeat (refine sideI ?_; conv => whnf)
            have hvl := list_len v
            have hvl2 := ok.nowLen
            refine AFn.useA [3] (fsList ok (by omega)) fun _ => ?_
            (conv => whnf); repeat (refine sideI ?_; conv => whnf)
            refine AWP.loop (X := SyS v 60 3600 60) (fun q => [(1, .iv (iRow (maskAll P))), (2, .iv (iRow (maskAll M))), (7, .ptr 0 0), (9, .mp 1), (16, .iv (strRow v.stL)), (17, .ptr 2 0), (102, .iv (strRow v.list)), (103, AV.int .i64 v.list.length), (104, AV.int .i64 q.i)]) (fun q => ⟨3, [(0, .sem (fsV v)), (1, .map none (smap oneI N)), (2, .sem (fsV q.u))]⟩) (fun q => v.list.length - q.i) (⟨0, Nat.zero_le _, v, ok, up, rfl, fun _ _ => rfl, fun j hj => absurd hj (Nat.not_lt_zero _)⟩) ?_ fun q => AWP.go (S := []) (cfgRfOk _ _) (.of_eq (by kernel_rfl)) ?_
            · refine (Ent.freeze 2 _ rfl rfl (e' := [(1, .iv (iRow (maskAll P))), (2, .iv (.sl 1 M.length (iF (maskTo M M.length)))), (7, .ptr 0 0), (9, .mp 1), (16, .iv (strRow v.stL)), (17, .ptr 3 0), (102, .iv (strRow v.list)), (103, AV.int .i64 v.list.length), (104, AV.int .i64 0)]) ?_).trans (Ent.mk' [some 0, some 1, some 3] (by kernel_rfl) ?_ ?_)
              · exact ⟨AVF.same .., AVF.sl (Nat.le_refl _), AVF.same .., AVF.same .., AVF.same .., AVF.same .., AVF.same .., AVF.same .., AVF.same .., trivial⟩
              · refine ⟨AVE.refl _, AVE.of_eq ?_, AVE.refl _, AVE.refl _, AVE.refl _, AVE.refl _, AVE.refl _, AVE.refl _, AVE.refl _, trivial⟩
                show AV.iv (.sl 1 M.length (iF (maskTo M M.length))) = AV.iv (.sl 1 (maskAll M).length (iF (maskAll M)))
                rw [maskTo_all, maskAll_len]
              · exact subC
            · have hqi := q.hi
              (conv => whnf); repeat (refine sideI ?_; conv => whnf)
              refine branchB_of (fun g3 => ?_) (fun g3 => ?_) <;> (first | replace g3 := not_t g3 | replace g3 := not_f g3 | skip) <;> (first | replace g3 := of_decide_eq_true g3 | replace g3 := of_decide_eq_false g3 | skip) <;> (first | replace g3 := Classical.not_not.1 g3 | skip) <;> (try dsimp only at g3)
              · have hql : q.i < v.list.length := by omega
                obtain ⟨hE, s', h1, h2⟩ := SyS.step ok up q hql
                (conv => whnf); repeat (refine sideI ?_; conv => whnf)
                refine AFn.useA [2] (fsSync q.ok (by omega) (by omega) (by omega) (v.list.getD q.i [])) fun _ => ?_
                rw [hE]
                (conv => whnf); repeat (refine sideI ?_; conv => whnf)
                refine ⟨s', Ent.mkC [some 0, some 1, some 2] ?_, ?_⟩
                · exact ⟨⟨_, rfl, ChE.refl _⟩, ⟨_, rfl, ChE.refl _⟩, ⟨_, rfl, ChE.of_eq (by rw [h2]; rfl)⟩, trivial⟩
                · show v.list.length - s'.i < v.list.length - q.i
                  omega
              · have hqe : q.i = v.list.length := by omega
                obtain ⟨hE, hq, hup, hst⟩ := q.dir ok up hqe
                have okd := q.ok.syncDir
                have okc := okd.crash (maskAll M)
                have l1 := stL_len okc
                have l2 := stL_len ok
                have e1 : (q.u.syncDir.crash (maskAll M)).stL = v.stL := (quiet_crash okd hq hup.off _).trans hst
                (conv => whnf); repeat (refine sideI ?_; conv => whnf)
                refine AFn.useA [2] (fsSyncDir q.ok (by omega) (by omega) (by omega)) fun _ => ?_
                rw [hE]
                (conv => whnf); repeat (refine sideI ?_; conv => whnf)
                refine AFn.useA [2] (fsCrashGood okd (by omega) (by omega) (P := maskAll M) (by rw [maskAll_len]; omega) (maskAll_ok M)) fun _ => ?_
                (conv => whnf); repeat (refine sideI ?_; conv => whnf)
                refine AFn.useA [2] (state_ok okc (by omega) (by omega)) fun _ => ?_
                (conv => whnf); repeat (refine sideI ?_; conv => whnf)
                refine AFn.useA [] (equalS_ok (q.u.syncDir.crash (maskAll M)).stL v.stL (by omega) (by omega)) fun _ => ?_
                rw [decide_eq_true e1]
                (conv => whnf); repeat (refine sideI ?_; conv => whnf)
                refine AFn.useA [0] (fsCrashGood ok (by omega) (by omega) (P := maskAll P) (by rw [maskAll_len]; omega) (maskAll_ok P)) fun _ => ?_
                have okw := ok.crash (maskAll P)
                have hqw := crash_quiet ok (maskAll P)
                have huw := VM.Up.crash v (maskAll P)
                have hnw : ∀ p ∈ (v.crash (maskAll P)).fd.now, p.1 ∈ N.map (·.1) := (seen.crash (pickN (maskAll P) v.fd.ds.length : Nat)).now
                generalize v.crash (maskAll P) = w at *
                have l3 := stL_len okw
                have hwl := list_len w
                have hwl2 := okw.nowLen
                have l4 := stL_len (okw.crash (maskAll M))
                have e2 := quiet_crash okw hqw huw.off (maskAll M)
                (conv => whnf); repeat (refine sideI ?_; conv => whnf)
                refine AFn.useA [0] (state_ok okw (by omega) (by omega)) fun _ => ?_
                (conv => whnf); repeat (refine sideI ?_; conv => whnf)
                refine AFn.useA [0] (fsList okw (by omega)) fun _ => ?_
                (conv => whnf); repeat (refine sideI ?_; conv => whnf)
                refine AWP.loop (X := { r : Nat // r ≤ w.list.length }) (fun r => [(2, .iv (iRow (maskAll M))), (7, .ptr 0 0), (9, .mp 1), (20, .iv (strRow w.stL)), (136, .iv (strRow w.list)), (137, AV.int .i64 w.list.length), (138, AV.int .i64 r.1)]) (fun r => ⟨2, [(0, .sem (fsV w)), (1, .map none (smap oneI N))]⟩) (fun r => w.list.length - r.1) (⟨0, Nat.zero_le _⟩) ?_ fun r => AWP.go (S := []) (cfgRfOk _ _) (.of_eq (by kernel_rfl)) ?_
                · exact Ent.mkA [some 0, some 1]
                · obtain ⟨r, hr⟩ := r
                  (conv => whnf); repeat (refine sideI ?_; conv => whnf)
                  refine branchB_of (fun g4 => ?_) (fun g4 => ?_) <;> (first | replace g4 := not_t g4 | replace g4 := not_f g4 | skip) <;> (first | replace g4 := of_decide_eq_true g4 | replace g4 := of_decide_eq_false g4 | skip) <;> (first | replace g4 := Classical.not_not.1 g4 | skip) <;> (try dsimp only at g4)
                  · have hrl : r < w.list.length := by omega
                    have hx : w.list.getD r [] ∈ w.list := by simp [List.getD, hrl]
                    have hx2 := (list_mem huw.off).1 hx
                    obtain ⟨p, hp, e3⟩ := List.mem_map.1 hx2
                    have hxN : w.list.getD r [] ∈ N.map (·.1) := e3 ▸ hnw p hp
                    (conv => whnf); repeat (refine sideI ?_; conv => whnf)
                    rw [mfind_smap]
                    simp -iota only [Int.toNat_natCast]
                    cases hf : afind N (w.list.getD r []) with
                    | none => exact absurd hxN (afind_none.1 hf)
                    | some u =>
                      refine ⟨fun y hy => ?_, fun hy => by cases hy⟩
                      cases hy
                      (conv => whnf); repeat (refine sideI ?_; conv => whnf)
                      refine ⟨⟨r + 1, hrl⟩, Ent.mkA [some 0, some 1], ?_⟩
                      show w.list.length - (r + 1) < w.list.length - r
                      omega
                  · have hre : r = w.list.length := by omega
                    subst hre
                    (conv => whnf); repeat (refine sideI ?_; conv => whnf)
                    refine AFn.useA [0] (fsCrashGood okw (by omega) (by omega) (P := maskAll M) (by rw [maskAll_len]; omega) (maskAll_ok M)) fun _ => ?_
                    (conv => whnf); repeat (refine sideI ?_; conv => whnf)
                    refine AFn.useA [0] (state_ok (okw.crash (maskAll M)) (by omega) (by omega)) fun _ => ?_
                    (conv => whnf); repeat (refine sideI ?_; conv => whnf)
                    refine AFn.useA [] (equalS_ok (w.crash (maskAll M)).stL w.stL (by omega) (by omega)) fun _ => ?_
                    rw [decide_eq_true e2]
                    (conv => whnf); repeat (refine sideI ?_; conv => whnf)
                    refine ⟨_, _, Ent.mk' (e' := [(0, AV.bool true)]) (H' := ⟨0, []⟩) [] (by kernel_rfl) ?_ ?_, (), rfl, rfl⟩
                    · exact ⟨AVE.refl _, trivial⟩
                    · trivial
  refine AWP.loop (X := CrX l) (fun x => [(1, .iv (iRow P)), (2, .iv (iRow M)), (7, .ptr 0 0), (9, .mp 1), (34, rowA l), (35, AV.int .i64 l.length), (36, AV.int .i64 x.i)]) (fun x => ⟨2, [(0, .sem (fsV x.v)), (1, .map none (smap oneI x.N))]⟩) (fun x => 60 - x.i) (⟨0, VM.new 1073741824, [], .new (by decide) _ _ _, VM.new_up _, new_seen _ _ (fun p hp => by cases hp), by omega, by omega⟩) ?_ fun x => AWP.go (S := []) (cfgRfOk _ _) (.of_eq (by kernel_rfl)) ?_
  · exact Ent.mkA [some 0, some 1]
  · obtain ⟨i, v, N, ok, up, seen, hi, hil⟩ := x
    (conv => whnf); repeat (refine sideI ?_; conv => whnf)
    refine branchB_of (fun h => ?_) (fun h => ?_) <;> (first | replace h := not_t h | replace h := not_f h | skip) <;> (first | replace h := of_decide_eq_true h | replace h := of_decide_eq_false h | skip) <;> (first | replace h := Classical.not_not.1 h | skip) <;> (try dsimp only at h)
    rotate_left
    · (conv => whnf); repeat (refine sideI ?_; conv => whnf)
      exact ⟨⟨i, v, N, ok, up, seen, hi, hil⟩, Ent.mkA [some 0, some 1]⟩
    generalize hc : l.getD ((i : Nat) : Int).toNat default = a
    have ha : a.Ok := hc ▸ getD_ok hl _
    (conv => whnf); repeat (refine sideI ?_; conv => whnf)
    rw [hc]
    refine branchB_of (fun h2 => ?_) (fun h2 => ?_) <;> (first | replace h2 := not_t h2 | replace h2 := not_f h2 | skip) <;> (first | replace h2 := of_decide_eq_true h2 | replace h2 := of_decide_eq_false h2 | skip) <;> (first | replace h2 := Classical.not_not.1 h2 | skip) <;> (try dsimp only at h2)
    · (conv => whnf); repeat (refine sideI ?_; conv => whnf)
      exact ⟨⟨i, v, N, ok, up, seen, hi, hil⟩, Ent.mkA [some 0, some 1]⟩
    have hlt : i < 60 := by omega
    have hskip : VM.Ok (i + 1) (60 * (i + 1)) (i + 1) v := ok.more (by omega) (by omega) (by omega)
    (conv => whnf); repeat (refine sideI ?_; conv => whnf)
    by_cases g11 : a.what = 11
    · rw [decide_eq_true g11]
      (conv => whnf); repeat (refine sideI ?_; conv => whnf)
      refine ⟨⟨i + 1, v, N, hskip, up, seen, by omega, by omega⟩, Ent.mkA [some 0, some 1], ?_⟩
      show 60 - (i + 1) < 60 - i
      omega
    rw [decide_eq_false g11]
    (conv => whnf); repeat (refine sideI ?_; conv => whnf)
    by_cases g9 : a.what = 9
    · rw [decide_eq_true g9]
      (conv => whnf); repeat (refine sideI ?_; conv => whnf)
      refine ⟨⟨i + 1, v, N, hskip, up, seen, by omega, by omega⟩, Ent.mkA [some 0, some 1], ?_⟩
      show 60 - (i + 1) < 60 - i
      omega
    rw [decide_eq_false g9]
    (conv => whnf); repeat (refine sideI ?_; conv => whnf)
    refine AFn.useA [0] (fdoes_ok ok (by omega) (by omega) (by omega) ha) fun _ => ?_
    have ok2 : (v.does a).Ok (i + 1) (60 * (i + 1)) (i + 1) := (ok.does ha).more (by omega) (by omega) (by omega)
    have up2 := up.does (a := a) g9
    have hsn := fun N0 h0 => seen_next ok up seen g9 g11 (N0 := N0) h0
    have hll := list_len (v.does a)
    have hll2 := ok2.nowLen
    generalize v.does a = v' at *
    (conv => whnf); repeat (refine sideI ?_; conv => whnf)
    by_cases g5 : a.what = 5
    · rw [decide_eq_true g5]
      have hs0 := hsn [] fun h => absurd g5 h
      (conv => whnf); repeat (refine sideI ?_; conv => whnf)
      refine AFn.useA [0] (fsList ok2 (by omega)) fun _ => ?_
      (conv => whnf); repeat (refine sideI ?_; conv => whnf)
      refine AWP.loop (X := { y : Nat // y ≤ v'.list.length }) (fun y => [(1, .iv (iRow P)), (2, .iv (iRow M)), (7, .ptr 0 0), (9, .mp 1), (34, rowA l), (35, AV.int .i64 l.length), (36, AV.int .i64 i), (60, AV.int .i64 v'.list.length), (59, .iv (strRow v'.list)), (61, AV.int .i64 y.1)]) (fun y => ⟨2, [(0, .sem (fsV v')), (1, .map none (smap oneI (seenL [] (v'.list.take y.1))))]⟩) (fun y => v'.list.length - y.1) (⟨0, Nat.zero_le _⟩) ?_ fun y => AWP.go (S := []) (cfgRfOk _ _) (.of_eq (by kernel_rfl)) ?_
      · exact Ent.mkA [some 0, some 1]
      · obtain ⟨y, hy⟩ := y
        (conv => whnf); repeat (refine sideI ?_; conv => whnf)
        refine branchB_of (fun g1 => ?_) (fun g1 => ?_) <;> (first | replace g1 := not_t g1 | replace g1 := not_f g1 | skip) <;> (first | replace g1 := of_decide_eq_true g1 | replace g1 := of_decide_eq_false g1 | skip) <;> (first | replace g1 := Classical.not_not.1 g1 | skip) <;> (try dsimp only at g1)
        · have hyl : y < v'.list.length := by omega
          (conv => whnf); repeat (refine sideI ?_; conv => whnf)
          rw [mput_oneI]
          refine ⟨⟨y + 1, hyl⟩, Ent.mkC [some 0, some 1] ?_, ?_⟩
          · exact ⟨⟨_, rfl, ChE.refl _⟩, ⟨_, rfl, ChE.of_eq (by rw [seenL_succ _ hyl]; rfl)⟩, trivial⟩
          · show v'.list.length - (y + 1) < v'.list.length - y
            omega
        · have hye : y = v'.list.length := by omega
          subst hye
          (conv => whnf); repeat (refine sideI ?_; conv => whnf)
          refine ⟨⟨i + 1, v', seenL [] v'.list, ok2, up2, hs0, by omega, by omega⟩, Ent.mkC [some 0, some 1] ?_, ?_⟩
          · exact ⟨⟨_, rfl, ChE.refl _⟩, ⟨_, rfl, ChE.of_eq (by rw [List.take_length]; rfl)⟩, trivial⟩
          · show 60 - (i + 1) < 60 - i
            omega
    · rw [decide_eq_false g5]
      have hs0 := hsn N fun _ => rfl
      (conv => whnf); repeat (refine sideI ?_; conv => whnf)
      refine AFn.useA [0] (fsList ok2 (by omega)) fun _ => ?_
      (conv => whnf); repeat (refine sideI ?_; conv => whnf)
      refine AWP.loop (X := { y : Nat // y ≤ v'.list.length }) (fun y => [(1, .iv (iRow P)), (2, .iv (iRow M)), (7, .ptr 0 0), (9, .mp 1), (34, rowA l), (35, AV.int .i64 l.length), (36, AV.int .i64 i), (60, AV.int .i64 v'.list.length), (59, .iv (strRow v'.list)), (61, AV.int .i64 y.1)]) (fun y => ⟨2, [(0, .sem (fsV v')), (1, .map none (smap oneI (seenL N (v'.list.take y.1))))]⟩) (fun y => v'.list.length - y.1) (⟨0, Nat.zero_le _⟩) ?_ fun y => AWP.go (S := []) (cfgRfOk _ _) (.of_eq (by kernel_rfl)) ?_
      · exact Ent.mkA [some 0, some 1]
      · obtain ⟨y, hy⟩ := y
        (conv => whnf); repeat (refine sideI ?_; conv => whnf)
        refine branchB_of (fun g1 => ?_) (fun g1 => ?_) <;> (first | replace g1 := not_t g1 | replace g1 := not_f g1 | skip) <;> (first | replace g1 := of_decide_eq_true g1 | replace g1 := of_decide_eq_false g1 | skip) <;> (first | replace g1 := Classical.not_not.1 g1 | skip) <;> (try dsimp only at g1)
        · have hyl : y < v'.list.length := by omega
          (conv => whnf); repeat (refine sideI ?_; conv => whnf)
          rw [mput_oneI]
          refine ⟨⟨y + 1, hyl⟩, Ent.mkC [some 0, some 1] ?_, ?_⟩
          · exact ⟨⟨_, rfl, ChE.refl _⟩, ⟨_, rfl, ChE.of_eq (by rw [seenL_succ _ hyl]; rfl)⟩, trivial⟩
          · show v'.list.length - (y + 1) < v'.list.length - y
            omega
        · have hye : y = v'.list.length := by omega
          subst hye
          (conv => whnf); repeat (refine sideI ?_; conv => whnf)
          refine ⟨⟨i + 1, v', seenL N v'.list, ok2, up2, hs0, by omega, by omega⟩, Ent.mkC [some 0, some 1] ?_, ?_⟩
          · exact ⟨⟨_, rfl, ChE.refl _⟩, ⟨_, rfl, ChE.of_eq (by rw [List.take_length]; rfl)⟩, trivial⟩
          · show 60 - (i + 1) < 60 - i
            omega
end Go.Proofs.YtpgdbeacmlojcaaGreat.Ax

namespace Go.Proofs.YtpgdbeacmlojcaaGreat.Ax
open Go.RowKit
set_option maxRecDepth 100000
/-- The name that is safe. -/
def sN : List UInt8 := [115, 97, 102, 101]
theorem sN_may : mayB sN = true := by decide
theorem stepV_in {P : NM → Prop} {v : VM} (hP : v.fd.In P) {d : VM → VM} (hd : (d v.tick).fd.In P) : (v.stepV d).fd.In P := by
  unfold VM.stepV
  split
  · exact hP
  · split
    · exact hP
    · exact hd
/-- What a call leaves, of what names always have. -/
theorem does_keep {P : NM → Prop} {v : VM} (hP : v.fd.In P) {a : FAct} (hmk : ∀ m n, P m → P (aput m a.name n)) (hmv : ∀ m n, P m → P (aput (adel m a.name) a.to n)) (hrm : ∀ m, P m → P (adel m a.name)) : (v.does a).fd.In P := by
  have hw : ∀ d, (withV a.name d v.tick).fd.In P := fun d => by rw [withV_fd]; exact hP
  unfold VM.does
  split
  · refine stepV_in hP ?_
    unfold VM.create1
    split
    · show (v.fd.create a.name).In P
      unfold FD.create
      split
      · exact hP.did (fun _ h => h) (D := .mk a.name (v.fd.last + 1)) (fun m h => hmk m _ h) _
      · exact hP
    · exact hP
  · split
    · exact stepV_in hP (hw _)
    · split
      · exact stepV_in hP (hw _)
      · split
        · exact stepV_in hP (hw _)
        · split
          · exact stepV_in hP (show (v.fd.synced).In P from hP.synced)
          · split
            · refine stepV_in hP ?_
              show (v.fd.ren a.name a.to).In P
              unfold FD.ren
              split
              · exact hP.did (fun _ h => h) (D := .mv a.name a.to (v.fd.findN a.name)) (fun m h => hmv m _ h) _
              · exact hP
            · split
              · refine stepV_in hP ?_
                show (v.fd.rem a.name).In P
                unfold FD.rem
                split
                · exact hP.did (fun _ h => h) (D := .rm a.name) (fun m h => hrm m h) _
                · exact hP
              · split
                · unfold VM.fuseSet
                  split <;> exact hP
                · split
                  · unfold VM.crashA
                    split
                    · exact hP
                    · exact hP.crash _
                  · exact hP
def noS (m : NM) : Prop := sN ∉ m.map (·.1)
theorem noS_does {v : VM} (hP : v.fd.In noS) {a : FAct} (h1 : a.name ≠ sN) (h2 : a.to ≠ sN) : (v.does a).fd.In noS := by
  have put : ∀ (m : NM) (x : List UInt8) (n : Nat), x ≠ sN → noS m → noS (aput m x n) := fun m x n hx hm => by
    unfold noS at *
    rw [keys_aput]
    split
    · exact hm
    · rw [List.mem_append, List.mem_singleton]
      rintro (h | h)
      · exact hm h
      · exact hx h.symm
  have del : ∀ (m : NM) (x : List UInt8), noS m → noS (adel m x) := fun m x hm => by
    unfold noS at *
    rw [keys_adel]
    intro h
    exact hm (List.mem_filter.1 h).1
  exact does_keep hP (fun m n hm => put m _ n h1 hm) (fun m n hm => put _ _ n h2 (del m _ hm)) fun m hm => del m _ hm
def atS (i : Nat) (m : NM) : Prop := afind m sN = some i
theorem atS_does {v : VM} {i : Nat} (hP : v.fd.In (atS i)) {a : FAct} (h1 : a.name ≠ sN) (h2 : a.to ≠ sN) : (v.does a).fd.In (atS i) := by
  have put : ∀ (m : NM) (x : List UInt8) (n : Nat), x ≠ sN → atS i m → atS i (aput m x n) := fun m x n hx hm => by
    unfold atS at *
    rw [afind_aput, if_neg (Ne.symm hx)]
    exact hm
  have del : ∀ (m : NM) (x : List UInt8), x ≠ sN → atS i m → atS i (adel m x) := fun m x hx hm => by
    unfold atS at *
    rw [afind_adel, if_neg (Ne.symm hx)]
    exact hm
  exact does_keep hP (fun m n hm => put m _ n h1 hm) (fun m n hm => put _ _ n h2 (del m _ h1 hm)) fun m hm => del m _ h1 hm
theorem stepV_quota {v : VM} {d : VM → VM} (h : (d v.tick).quota = v.quota) : (v.stepV d).quota = v.quota := by
  unfold VM.stepV
  split
  · rfl
  · split
    · rfl
    · exact h
theorem withV_quota (x : List UInt8) (d : VM → FI → FI) (v : VM) : (withV x d v).quota = v.quota := by
  unfold withV
  split <;> rfl
theorem does_quota (v : VM) (a : FAct) : (v.does a).quota = v.quota := by
  unfold VM.does
  split
  · refine stepV_quota ?_
    unfold VM.create1
    split <;> rfl
  · split
    · exact stepV_quota (withV_quota _ _ _)
    · split
      · exact stepV_quota (withV_quota _ _ _)
      · split
        · exact stepV_quota (withV_quota _ _ _)
        · split
          · exact stepV_quota rfl
          · split
            · exact stepV_quota rfl
            · split
              · exact stepV_quota rfl
              · split
                · unfold VM.fuseSet
                  split <;> rfl
                · split
                  · unfold VM.crashA
                    split <;> rfl
                  · rfl
/-! The file that is safe. -/
theorem live_at {v : VM} {i : Nat} (hP : v.fd.In (atS i)) : i ∈ v.fd.live := by
  have h1 := hP.now
  unfold atS at h1
  exact live_mem.2 ⟨v.fd.ds.length, Nat.le_refl _, by rw [List.take_length, ← hP.eq]; exact List.mem_map_of_mem (f := fun p : List UInt8 × Nat => p.2) (afind_mem h1)⟩
theorem stepV_file {v : VM} {i : Nat} {f f' : FI} (hf : ffind v.fs i = some f) {d : VM → VM} (hd : ffind (d v.tick).fs i = some f') (hl : (d v.tick).fd.In (atS i)) : ffind (v.stepV d).fs i = some (if v.off = true then f else if v.fuse = 0 then f else f') := by
  unfold VM.stepV
  split
  · exact hf
  · split
    · exact hf
    · show ffind ((d v.tick).fs.filter fun p => decide (p.1 ∈ (d v.tick).fd.live)) i = _
      rw [ffind_filter (fun y => decide (y ∈ (d v.tick).fd.live)), if_pos (decide_eq_true (live_at hl))]
      exact hd
theorem stepV_same {v : VM} {i : Nat} {f : FI} (hf : ffind v.fs i = some f) {d : VM → VM} (hd : ffind (d v.tick).fs i = some f) (hl : (d v.tick).fd.In (atS i)) : ffind (v.stepV d).fs i = some f := by
  rw [stepV_file hf hd hl]
  split
  · rfl
  · split <;> rfl
theorem withV_other {n B k : Nat} {v : VM} (h : v.Ok n B k) {i : Nat} (hP : v.fd.In (atS i)) {f : FI} (hf : ffind v.fs i = some f) {x : List UInt8} (hx : x ≠ sN) (d : VM → FI → FI) : ffind (withV x d v).fs i = some f := by
  unfold withV
  split
  · rename_i h0
    obtain ⟨_, m, h1⟩ := findE_zero h0
    have en : v.fd.findN x = m := by unfold FD.findN; rw [h1]; rfl
    have hne : i ≠ m := fun e => by
      subst e
      have h2 := hP.now
      unfold atS at h2
      have := h.fd.now.1.inj _ (afind_mem h1) _ (afind_mem h2) rfl
      exact hx (by injection this)
    show ffind (fset v.fs (v.fd.findN x) _) i = _
    rw [ffind_fset, en, if_neg fun h => hne h.1]
    exact hf
  · exact hf
/-- Other calls leave it as it is. -/
theorem does_file {n B k : Nat} {v : VM} (h : v.Ok n B k) {i : Nat} (hP : v.fd.In (atS i)) {f : FI} (hf : ffind v.fs i = some f) {a : FAct} (h1 : a.name ≠ sN) (h2 : a.to ≠ sN) (h11 : a.what ≠ 11) : ffind (v.does a).fs i = some f := by
  have ht := h.tick
  have hT : v.tick.fd.In (atS i) := hP
  have hfT : ffind v.tick.fs i = some f := hf
  have hw : ∀ d, (withV a.name d v.tick).fd.In (atS i) := fun d => by rw [withV_fd]; exact hP
  have hD := atS_does hP h1 h2
  unfold VM.does at hD ⊢
  split
  · rename_i g
    refine stepV_same hf ?_ ?_
    · unfold VM.create1
      split
      · show ffind (v.fs ++ _) i = _
        rw [ffind_append, hf]
        rfl
      · exact hf
    · unfold VM.create1
      split
      · show (v.fd.create a.name).In _
        unfold FD.create
        split
        · refine hP.did (fun _ h => h) (D := .mk a.name (v.fd.last + 1)) (fun m hm => ?_) _
          show afind (aput m a.name _) sN = some i
          rw [afind_aput, if_neg (Ne.symm h1)]
          exact hm
        · exact hP
      · exact hP
  · split
    · exact stepV_same hf (withV_other ht hT hfT h1 _) (hw _)
    · split
      · exact stepV_same hf (withV_other ht hT hfT h1 _) (hw _)
      · split
        · exact stepV_same hf (withV_other ht hT hfT h1 _) (hw _)
        · split
          · exact stepV_same hf (d := VM.syncDir1) hf (show (v.fd.synced).In _ from hP.synced)
          · split
            · refine stepV_same hf (d := VM.rename1 _ _) hf ?_
              show (v.fd.ren a.name a.to).In _
              unfold FD.ren
              split
              · refine hP.did (fun _ h => h) (D := .mv a.name a.to (v.fd.findN a.name)) (fun m hm => ?_) _
                show afind (aput (adel m a.name) a.to _) sN = some i
                rw [afind_aput, if_neg (Ne.symm h2), afind_adel, if_neg (Ne.symm h1)]
                exact hm
              · exact hP
            · split
              · refine stepV_same hf (d := VM.remove1 _) hf ?_
                show (v.fd.rem a.name).In _
                unfold FD.rem
                split
                · refine hP.did (fun _ h => h) (D := .rm a.name) (fun m hm => ?_) _
                  show afind (adel m a.name) sN = some i
                  rw [afind_adel, if_neg (Ne.symm h1)]
                  exact hm
                · exact hP
              · split
                · unfold VM.fuseSet
                  split <;> exact hf
                · exact hf
/-- What was appended to a file, since its Sync. -/
structure FI.Adds (b : List UInt8) (f : FI) : Prop where
  safe : f.safe = b
  adds : ∀ d ∈ f.ds, ∃ a, d = .add a
theorem FI.Adds.app {b c : List UInt8} {f : FI} (h : f.Adds b) : (f.app c).Adds b ∧ (f.app c).now = f.now ++ c := by
  unfold FI.app
  split
  · rename_i e
    exact ⟨h, by rw [e, List.append_nil]⟩
  · refine ⟨⟨h.safe, fun d hd => ?_⟩, ?_⟩
    · rcases List.mem_append.1 hd with hd | hd
      · exact h.adds d hd
      · exact ⟨c, List.mem_singleton.1 hd⟩
    · show f.now ++ c.take c.length = _
      rw [List.take_length]
theorem app_file {n B k : Nat} {v : VM} (_h : v.Ok n B k) {i : Nat} (hP : v.fd.In (atS i)) {f : FI} (hf : ffind v.fs i = some f) {b : List UInt8} (ha : f.Adds b) (c : List UInt8) :
    (v.append sN c).fd.In (atS i) ∧ ∃ f', ffind (v.append sN c).fs i = some f' ∧ f'.Adds b ∧ f'.now = if v.appendE sN c = 0 then f.now ++ c else f.now := by
  have hT : v.tick.fd.In (atS i) := hP
  have hn := hP.now
  have h0 : v.tick.findE sN = 0 := findE_yes sN_may hn
  have en : v.tick.fd.findN sN = i := by
    show (afind v.fd.now sN).getD 0 = i
    rw [show afind v.fd.now sN = some i from hn]
    rfl
  have ef : v.tick.file sN = f := file_of (v := v.tick) hn hf
  have ew : withV sN (VM.appD c) v.tick = { v.tick with fs := fset v.fs i (VM.appD c v.tick f) } := by
    unfold withV
    rw [if_pos h0, en, ef]
    rfl
  have hE : v.appendE sN c = if v.off = true then 20 else if v.fuse = 0 then 20 else VM.appE c v.tick f := by
    unfold VM.appendE VM.stepE withE
    rw [if_pos h0, ef]
  have hI : (withV sN (VM.appD c) v.tick).fd.In (atS i) := by rw [withV_fd]; exact hP
  refine ⟨stepV_in hP hI, ?_⟩
  have hd : ffind (withV sN (VM.appD c) v.tick).fs i = some (VM.appD c v.tick f) := by
    rw [ew]
    show ffind (fset v.fs i _) i = _
    rw [ffind_fset, if_pos ⟨rfl, by rw [hf]; rfl⟩]
  have hs := stepV_file hf (d := withV sN (VM.appD c)) hd hI
  rw [hE]
  refine ⟨_, hs, ?_⟩
  split
  · exact ⟨ha, by rw [if_neg (by decide)]⟩
  · split
    · exact ⟨ha, by rw [if_neg (by decide)]⟩
    · unfold VM.appD
      split
      · exact ha.app
      · exact ⟨ha, rfl⟩
/-! Behind a crash. -/
def flatA (l : List Dd) : List UInt8 := l.flatMap fun d => match d with
  | .add a => a
  | .cut _ => []
theorem full_adds : ∀ (l : List Dd) (s : List UInt8), (∀ d ∈ l, ∃ a, d = .add a) → full s l = s ++ flatA l
  | [], s, _ => by simp [full, flatA]
  | d :: l, s, h => by
    obtain ⟨a, rfl⟩ := h d (List.mem_cons_self ..)
    have e : full s (.add a :: l) = full (s ++ a.take a.length) l := rfl
    rw [e, full_adds l _ fun d hd => h d (List.mem_cons_of_mem _ hd), List.take_length]
    simp [flatA]
theorem crash_adds (K : Nat) : ∀ (l : List Dd) (s : Nat × List UInt8), (∀ d ∈ l, ∃ a, d = .add a) → (l.foldl (crS K) s).2 = s.2 ++ (flatA l).take (K - s.1)
  | [], s, _ => by simp [flatA]
  | d :: l, s, h => by
    obtain ⟨a, rfl⟩ := h d (List.mem_cons_self ..)
    have ih := crash_adds K l (crS K s (.add a)) fun d hd => h d (List.mem_cons_of_mem _ hd)
    have e1 : (crS K s (.add a)).2 = s.2 ++ a.take (min a.length (K - s.1)) := rfl
    have e2 : (crS K s (.add a)).1 = s.1 + min a.length (K - s.1) := rfl
    have e3 : flatA (.add a :: l) = a ++ flatA l := rfl
    rw [List.foldl_cons, ih, e1, e2, e3, List.take_append, List.append_assoc]
    congr 1
    rw [show K - (s.1 + min a.length (K - s.1)) = K - s.1 - a.length by omega]
    congr 1
    rw [List.take_eq_take_iff]
    omega
theorem crash_prefix {n B : Nat} {f : FI} (h : f.Ok n B) {b : List UInt8} (ha : f.Adds b) (K : Nat) : b.length ≤ (f.crash K).now.length ∧ (f.crash K).now <+: f.now := by
  have e1 : (f.crash K).now = b ++ (flatA f.ds).take K := by
    have := crash_adds K f.ds (0, f.safe) ha.adds
    rw [ha.safe] at this
    unfold FI.crash
    rw [ha.safe]
    exact this
  have e2 : f.now = b ++ flatA f.ds := by rw [h.eq, full_adds _ _ ha.adds, ha.safe]
  rw [e1, e2]
  exact ⟨by rw [List.length_append]; omega, (List.prefix_append_right_inj b).2 (List.take_prefix _ _)⟩
/-! From the call of Create to SyncDir. -/
theorem wstep {n B k : Nat} {v : VM} (_h : v.Ok n B k) (up : v.Up) {x : List UInt8} {i : Nat} {f : FI} (hm : mayB x = true) (hx : afind v.fd.now x = some i) (hf : ffind v.fs i = some f) (hl : i ∈ v.fd.live) (e : VM → FI → Int) (d : VM → FI → FI) :
    v.stepE (withE x e) = e v.tick f ∧ (v.stepV (withV x d)).fd = v.fd ∧ ffind (v.stepV (withV x d)).fs i = some (d v.tick f) ∧ (v.stepV (withV x d)).Up ∧ (v.stepV (withV x d)).quota = v.quota := by
  have h0 : v.tick.findE x = 0 := findE_yes hm hx
  have ef : v.tick.file x = f := file_of (v := v.tick) hx hf
  have en : v.tick.fd.findN x = i := by
    show (afind v.fd.now x).getD 0 = i
    rw [hx]
    rfl
  have ew : withV x d v.tick = { v.tick with fs := fset v.fs i (d v.tick f) } := by
    unfold withV
    rw [if_pos h0, en, ef]
    rfl
  refine ⟨?_, ?_, ?_, up.step (up.tick.withV _ _), stepV_quota (withV_quota _ _ _)⟩
  · rw [stepE_on up.off up.ne]
    unfold withE
    rw [if_pos h0, ef]
  · rw [stepV_on up.off up.ne, ew]
    rfl
  · rw [stepV_on up.off up.ne, ew]
    show ffind ((fset v.fs i (d v.tick f)).filter fun p => decide (p.1 ∈ v.fd.live)) i = _
    rw [ffind_filter (fun y => decide (y ∈ v.fd.live)), if_pos (decide_eq_true hl), ffind_fset, if_pos ⟨rfl, by rw [hf]; rfl⟩]
theorem safe_mid {n B k : Nat} {v : VM} (h : v.Ok n B k) (hn : n ≤ 61) (hB : B ≤ 4000) (up : v.Up) (hno : v.fd.In noS) (hq : v.quota = 1073741824) {b : List UInt8} (hb : b.length ≤ 60) :
    v.createE sN = 7 ∨ (v.createE sN = 0 ∧ (v.create sN).appendE sN b = 0 ∧ ((v.create sN).append sN b).syncE sN = 0 ∧ (((v.create sN).append sN b).sync sN).syncDirE = 0 ∧
      ∃ i, ((((v.create sN).append sN b).sync sN).syncDir).fd.In (atS i) ∧ ffind ((((v.create sN).append sN b).sync sN).syncDir).fs i = some ⟨b, b, []⟩) := by
  have hno2 : afind v.fd.now sN = none := afind_none.2 hno.now
  have hcE : v.createE sN = bif decide (256 ≤ v.fd.now.length) then 7 else 0 := by
    unfold VM.createE
    rw [stepE_on up.off up.ne]
    show v.fd.createE sN = _
    unfold FD.createE
    rw [sN_may, hno2]
    rfl
  by_cases h256 : 256 ≤ v.fd.now.length
  · exact .inl (by rw [hcE, decide_eq_true h256]; rfl)
  refine .inr ?_
  have c0 : v.createE sN = 0 := by rw [hcE, decide_eq_false h256]; rfl
  have cf : v.fd.createE sN = 0 := by
    have := c0
    unfold VM.createE at this
    rw [stepE_on up.off up.ne] at this
    exact this
  have ok1 := h.create sN
  have up1 : (v.create sN).Up := up.step (up.tick.create1 _)
  have fd1 : (v.create sN).fd = v.fd.create sN := create_fd up sN
  have now1 : (v.create sN).fd.now = aput v.fd.now sN (v.fd.last + 1) := by
    rw [fd1]
    unfold FD.create
    rw [if_pos cf]
    rfl
  have at1 : afind (v.create sN).fd.now sN = some (v.fd.last + 1) := by rw [now1, afind_aput, if_pos rfl]
  have live1 : v.fd.last + 1 ∈ (v.create sN).fd.live := ok1.liveNow (sN, v.fd.last + 1) (afind_mem at1)
  have e1 : v.create sN = (v.tick.create1 sN).clean := stepV_on up.off up.ne _
  have e2 : v.tick.create1 sN = { v.tick with fd := v.tick.fd.create sN, fs := v.tick.fs ++ [(v.tick.fd.last + 1, ⟨[], [], []⟩)] } := if_pos cf
  have none1 : ffind v.fs (v.fd.last + 1) = none := by
    cases hf : ffind v.fs (v.fd.last + 1) with
    | none => rfl
    | some f =>
      have : v.fd.last + 1 ≤ v.fd.last := h.le _ (ffind_mem hf)
      omega
  have q1 : (v.create sN).quota = 1073741824 := by
    rw [e1, e2]
    exact hq
  have f1 : ffind (v.create sN).fs (v.fd.last + 1) = some ⟨[], [], []⟩ := by
    have hl := live1
    rw [e1, e2] at hl ⊢
    show ffind ((v.fs ++ [(v.fd.last + 1, (⟨[], [], []⟩ : FI))]).filter fun p => decide (p.1 ∈ (v.fd.create sN).live)) (v.fd.last + 1) = _
    rw [ffind_filter (fun y => decide (y ∈ (v.fd.create sN).live)), if_pos (decide_eq_true (show v.fd.last + 1 ∈ (v.fd.create sN).live from hl)), ffind_append, none1]
    simp
  generalize v.create sN = v1 at *
  obtain ⟨a1, a2, a3, a4, a5⟩ := wstep ok1 up1 sN_may at1 f1 live1 (VM.appE b) (VM.appD b)
  have hu := usedTo_le (v := v1.tick) (B := 4000) (fun p hp => by have := (ok1.files p hp).len; omega) (lsN v1.fd.now).length
  rw [show v1.tick.usedTo (lsN v1.fd.now).length = v1.tick.used from used_all v1.tick] at hu
  have hll := lsN_length v1.fd.now
  have hlen := ok1.nowLen
  have hu2 : v1.tick.used ≤ 62 * 4000 := Nat.le_trans hu (Nat.mul_le_mul_right _ (by omega))
  have app0 : VM.appE b v1.tick ⟨[], [], []⟩ = 0 := by
    unfold VM.appE
    rw [show v1.tick.quota = 1073741824 from q1, if_neg (by omega)]
  have fapp : VM.appD b v1.tick ⟨[], [], []⟩ = FI.app ⟨[], [], []⟩ b := if_pos app0
  have napp : (FI.app ⟨[], [], []⟩ b).now = b := by
    have hA : FI.Adds [] (⟨[], [], []⟩ : FI) := ⟨rfl, fun d hd => by cases hd⟩
    exact (hA.app (c := b)).2
  have ok2 := ok1.append sN b
  have hA : v1.appendE sN b = 0 := by
    rw [← app0]
    exact a1
  have fd2 : (v1.append sN b).fd = v1.fd := a2
  have f2 : ffind (v1.append sN b).fs (v.fd.last + 1) = some (FI.app ⟨[], [], []⟩ b) := by rw [← fapp]; exact a3
  have up2 : (v1.append sN b).Up := a4
  generalize v1.append sN b = v2 at *
  obtain ⟨b1, b2, b3, b4, _⟩ := wstep ok2 up2 sN_may (by rw [fd2]; exact at1) f2 (by rw [fd2]; exact live1) (fun _ _ => 0) (fun _ f => ⟨f.now, f.now, []⟩)
  have ok3 := ok2.sync sN
  have fd3 : (v2.sync sN).fd = v1.fd := b2.trans fd2
  have f3 : ffind (v2.sync sN).fs (v.fd.last + 1) = some ⟨b, b, []⟩ := by
    have : ffind (v2.sync sN).fs (v.fd.last + 1) = some ⟨(FI.app ⟨[], [], []⟩ b).now, (FI.app ⟨[], [], []⟩ b).now, []⟩ := b3
    rw [napp] at this
    exact this
  have up3 : (v2.sync sN).Up := b4
  have hS : v2.syncE sN = 0 := b1
  generalize v2.sync sN = v3 at *
  have e4 : v3.syncDir = (v3.tick.syncDir1).clean := stepV_on up3.off up3.ne _
  have in4 : v3.syncDir.fd.In (atS (v.fd.last + 1)) := by
    rw [e4]
    refine ⟨rfl, fun j _ => ?_⟩
    show afind (onAll v3.fd.now (List.take j [])) sN = _
    rw [List.take_nil]
    show afind v3.fd.now sN = _
    rw [fd3]
    exact at1
  refine ⟨c0, hA, hS, stepE_on up3.off up3.ne _, v.fd.last + 1, in4, ?_⟩
  have hl := live_at in4
  rw [e4] at hl ⊢
  show ffind (v3.fs.filter fun p => decide (p.1 ∈ v3.fd.synced.live)) (v.fd.last + 1) = _
  rw [ffind_filter (fun y => decide (y ∈ v3.fd.synced.live)), if_pos (decide_eq_true (show v.fd.last + 1 ∈ v3.fd.synced.live from hl))]
  exact f3
/-- What is there behind a crash. -/
theorem safe_end {n B k : Nat} {v : VM} (h : v.Ok n B k) {i : Nat} (hP : v.fd.In (atS i)) {f : FI} (hf : ffind v.fs i = some f) {b : List UInt8} (ha : f.Adds b) (P : List Int) :
    (v.crash P).openE sN = 0 ∧ (b.length : Int) ≤ (v.crash P).size sN ∧ (v.crash P).readE sN 0 ((v.crash P).size sN) = 0 ∧ (v.crash P).read sN 0 ((v.crash P).size sN) <+: f.now := by
  have hC : (v.crash P).fd.In (atS i) := hP.crash _
  have hnow : afind (v.crash P).fd.now sN = some i := hC.now
  have h0 : (v.crash P).openE sN = 0 := by
    unfold VM.openE
    rw [if_neg (by show ¬ false = true; decide)]
    exact findE_yes sN_may hnow
  obtain ⟨K, hK⟩ := crash_find P (live_at hC)
  rw [hf] at hK
  have ef : (v.crash P).file sN = f.crash K := file_of hnow hK
  obtain ⟨r1, r2⟩ := read_all h0
  obtain ⟨p1, p2⟩ := crash_prefix (h.file hf) ha K
  refine ⟨h0, ?_, r2, ?_⟩
  · unfold VM.size
    rw [if_pos h0, ef]
    omega
  · rw [r1, ef]
    exact p2
end Go.Proofs.YtpgdbeacmlojcaaGreat.Ax

namespace Go.Proofs.YtpgdbeacmlojcaaGreat.Ax
open Go.RowKit
set_option maxRecDepth 100000
/-- A row of numbers is written no more, from a call on. -/
theorem ACall.freezeR {P : Program} {F : FuncId} {args : List AV} {H : AH} {K QP : AV → AH → Prop} (h : Nat) {e sz n : Nat} {f : Nat → List IV} (hc : H.get h = some (.rowc e sz n f)) (args0 : List AV) (ha : argsF h (.rowc e sz n f) args args0) (hcall : ACall P F args0 (H.del h) K QP) : ACall P F args H K QP :=
  ⟨hcall.fn, fun ρ ι w cargs hG hS hr => by
    obtain ⟨ι', q1, q2, q3, q4⟩ := hS.lend hc
    refine (hcall.run ρ ι' w cargs (hG.mono q1) q2 (argsF_run q1 q4 ha hr)).mono fun en w' hp => ?_
    cases en with
    | returned v => obtain ⟨r, H', ρ', ι2, k, g1, g2, g3⟩ := hp; exact ⟨r, H', ρ', ι2, k, g1, g2, q3.trans g3⟩
    | panicked ch => obtain ⟨v, e, r, H', ρ', ι2, k, g1, g2, g3⟩ := hp; exact ⟨v, e, r, H', ρ', ι2, k, g1, g2, q3.trans g3⟩
    | outgrown => exact hp⟩
/-- How far the calls ahead have come. -/
structure SfA (l : List FAct) (top : Nat) where
  i : Nat
  v : VM
  ok : v.Ok i (60 * i) i
  up : v.Up
  no : v.fd.In noS
  quota : v.quota = 1073741824
  hi : i ≤ top
/-- How far the calls behind have come. -/
structure SfB (b : List UInt8) (inode top : Nat) where
  i : Nat
  v : VM
  f : FI
  ok : v.Ok (63 + i) (4000 + 60 * i) (70 + i)
  at_ : v.fd.In (atS inode)
  hf : ffind v.fs inode = some f
  adds : f.Adds b
  hi : i ≤ top
theorem AVE.rowA {n : Nat} {f : Nat → List IV} (L : List FAct) (hn : n = L.length) (hf : ∀ i, i < L.length → f i = actF (L.getD i default)) : AVE (.iv (.sl 7 n f)) (Ax.rowA L) := by
  subst hn
  exact AVE.sl fun i hi => by rw [hf i hi]; exact IVEs.refl _
theorem getD_take {L : List FAct} {h i : Nat} (hi : i < h) : (L.take h).getD i default = L.getD i default := by
  rw [List.getD_eq_getElem?_getD, List.getD_eq_getElem?_getD, List.getElem?_take_of_lt hi]
theorem getD_drop (L : List FAct) (h i : Nat) : (L.drop h).getD i default = L.getD (h + i) default := by
  rw [List.getD_eq_getElem?_getD, List.getD_eq_getElem?_getD, List.getElem?_drop]
theorem take_ok {L : List FAct} (h : ∀ a ∈ L, a.Ok) (n : Nat) : ∀ a ∈ L.take n, a.Ok := fun a ha => h a (List.mem_of_mem_take ha)
theorem drop_ok {L : List FAct} (h : ∀ a ∈ L, a.Ok) (n : Nat) : ∀ a ∈ L.drop n, a.Ok := fun a ha => h a (List.mem_of_mem_drop ha)
noncomputable def cfgSf (N b : Nat) : Cfg := { P := Go.Proofs.Tryz.prog, T := tt, wr := false, N := N, pure := [], base := b, frz := fun op => match op with | .buildSlice .. => true | _ => false }
theorem cfgSfOk (N b : Nat) : (cfgSf N b).Ok := ⟨ttOk, ttBytes, by kernel_rfl⟩
set_option maxHeartbeats 4000000 in
theorem safe_law (l : List FAct) (hl : ∀ a ∈ l, a.Ok) (b0 : List UInt8) (hb0 : b0.length ≤ 9223372036854775807) (P : List Int) (hPl : P.length ≤ 17592186044416) : Law Go.Proofs.Tryz.prog 3 [rowA l, .iv (.bs b0), .iv (iRow P)] := by
  refine ACall.fin ?_
  refine ACall.walkF (C := cfgSf 202 0) (cfgSfOk _ _) [] (fn := Go.Proofs.Tryz.f3) (by kernel_rfl) (by kernel_rfl) rfl (by kernel_rfl) (by kernel_rfl) rfl rfl fun hlen hheap => ?_
  obtain ⟨hl1, _⟩ := hlen
  simp only [lenF] at hl1
  (conv => whnf); repeat (refine sideI ?_; conv => whnf)
  generalize hb : List.take ((min (b0.length : Int) 60).toNat - Int.toNat 0) (List.drop (Int.toNat 0) b0) = b
  have hbl : b.length ≤ 60 := by rw [← hb]; simp; omega
  refine AFn.useA [] (new_fs 1073741824 (by decide)) fun _ => ?_
  (conv => whnf); repeat (refine sideI ?_; conv => whnf)
  refine AFn.useA [] (wakes_ok) fun _ => ?_
  (conv => whnf); repeat (refine sideI ?_; conv => whnf)
  obtain ⟨L, hL⟩ : ∃ L, L = l.take 60 := ⟨_, rfl⟩
  have hLok : ∀ a ∈ L, a.Ok := by rw [hL]; exact take_ok hl 60
  have hLl : L.length = min l.length 60 := by rw [hL]; simp [Nat.min_comm]
  have hLg : ∀ i, i < L.length → L.getD i default = l.getD i default := fun i hi => by rw [hL]; exact getD_take (by omega)
  refine AWP.loop (X := SfA L (L.length / 2)) (fun x => [(0, rowA L), (1, .iv (.bs b)), (2, .iv (iRow P)), (7, .ptr 0 0), (9, AV.int .i64 (L.length / 2 : Nat)), (46, rowA (L.take (L.length / 2))), (47, AV.int .i64 (L.length / 2 : Nat)), (48, AV.int .i64 x.i)]) (fun x => fone x.v) (fun x => L.length / 2 - x.i) (⟨0, VM.new 1073741824, .new (by decide) _ _ _, VM.new_up _, new_seen _ _ (by simp [noS]), rfl, Nat.zero_le _⟩) ?_ fun x => AWP.go (S := []) (cfgSfOk _ _) (.of_eq (by kernel_rfl)) ?_
  · have e1 : (min (l.length : Int) 60).toNat - Int.toNat 0 = L.length := by rw [hLl]; simp; omega
    have e2 : ((min (l.length : Int) 60).toNat - Int.toNat 0 : Nat) / 2 = L.length / 2 := by rw [e1]
    refine Ent.mk' [some 0] (by kernel_rfl) ⟨AVE.rowA L e1 (fun i hi => ?_), AVE.refl _, AVE.refl _, AVE.refl _, AVE.int ?_, AVE.rowA _ ?_ (fun i hi => ?_), AVE.int ?_, AVE.refl _, trivial⟩ subC
    · show actF (l.getD (Int.toNat 0 + i) default) = _
      rw [show Int.toNat 0 + i = i from Nat.zero_add i, hLg i hi]
    · rw [e1]
      omega
    · rw [e1]
      simp
      omega
    · show actF (l.getD (Int.toNat 0 + (Int.toNat 0 + i)) default) = _
      have hi : i < L.length / 2 := by simp at hi; omega
      rw [show Int.toNat 0 + (Int.toNat 0 + i) = i by omega, getD_take hi, hLg i (by omega)]
    · rw [e1]
      omega
  · obtain ⟨i, v, ok, up, no, quota, hi⟩ := x
    (conv => whnf); repeat (refine sideI ?_; conv => whnf)
    refine branchB_of (fun h => ?_) (fun h => ?_) <;> (first | replace h := not_t h | replace h := not_f h | skip) <;> (first | replace h := of_decide_eq_true h | replace h := of_decide_eq_false h | skip) <;> (first | replace h := Classical.not_not.1 h | skip) <;> (try dsimp only at h)
    · have hlt : i < L.length / 2 := by omega
      generalize hc : (L.take (L.length / 2)).getD ((i : Nat) : Int).toNat default = a
      have ha : a.Ok := hc ▸ getD_ok (take_ok hLok _) _
      have hskip : VM.Ok (i + 1) (60 * (i + 1)) (i + 1) v := ok.more (by omega) (by omega) (by omega)
      (conv => whnf); repeat (refine sideI ?_; conv => whnf)
      rw [hc]
      by_cases g1 : a.name = sN
      · rw [decide_eq_false (show ¬ a.name ≠ (⟨#[115, 97, 102, 101]⟩ : ByteArray).data.toList from fun h => h g1)]
        (conv => whnf); repeat (refine sideI ?_; conv => whnf)
        refine ⟨⟨i + 1, v, hskip, up, no, quota, by omega⟩, Ent.mkA [some 0], ?_⟩
        show L.length / 2 - (i + 1) < L.length / 2 - i
        omega
      rw [decide_eq_true (show a.name ≠ (⟨#[115, 97, 102, 101]⟩ : ByteArray).data.toList from g1)]
      (conv => whnf); repeat (refine sideI ?_; conv => whnf)
      by_cases g2 : a.to = sN
      · rw [decide_eq_false (show ¬ a.to ≠ (⟨#[115, 97, 102, 101]⟩ : ByteArray).data.toList from fun h => h g2)]
        (conv => whnf); repeat (refine sideI ?_; conv => whnf)
        refine ⟨⟨i + 1, v, hskip, up, no, quota, by omega⟩, Ent.mkA [some 0], ?_⟩
        show L.length / 2 - (i + 1) < L.length / 2 - i
        omega
      rw [decide_eq_true (show a.to ≠ (⟨#[115, 97, 102, 101]⟩ : ByteArray).data.toList from g2)]
      (conv => whnf); repeat (refine sideI ?_; conv => whnf)
      by_cases g9 : a.what = 9
      · rw [decide_eq_false (show ¬ a.what ≠ 9 from fun h => h g9)]
        (conv => whnf); repeat (refine sideI ?_; conv => whnf)
        refine ⟨⟨i + 1, v, hskip, up, no, quota, by omega⟩, Ent.mkA [some 0], ?_⟩
        show L.length / 2 - (i + 1) < L.length / 2 - i
        omega
      rw [decide_eq_true (show a.what ≠ 9 from g9)]
      (conv => whnf); repeat (refine sideI ?_; conv => whnf)
      refine AFn.useA [0] (fdoes_ok ok (by omega) (by omega) (by omega) ha) fun _ => ?_
      have ok2 : (v.does a).Ok (i + 1) (60 * (i + 1)) (i + 1) := (ok.does ha).more (by omega) (by omega) (by omega)
      (conv => whnf); repeat (refine sideI ?_; conv => whnf)
      refine ⟨⟨i + 1, v.does a, ok2, up.does g9, noS_does no g1 g2, (does_quota v a).trans quota, by omega⟩, Ent.mkA [some 0], ?_⟩
      show L.length / 2 - (i + 1) < L.length / 2 - i
      omega
    · have hie : i ≤ 30 := by omega
      have hmid := safe_mid ok (by omega) (by omega) up no quota hbl
      (conv => whnf); repeat (refine sideI ?_; conv => whnf)
      refine AFn.useA [0] (fsCreate ok (by omega) (by omega) (by omega) sN) fun _ => ?_
      rcases hmid with h7 | ⟨hC, hA, hS, hD, inode, hin, hfi⟩
      · rw [h7]
        (conv => whnf); repeat (refine sideI ?_; conv => whnf)
        refine ⟨_, _, Ent.mk' (e' := [(0, AV.bool true)]) (H' := ⟨0, []⟩) [] (by kernel_rfl) ?_ ?_, (), rfl, rfl⟩
        · exact ⟨AVE.refl _, trivial⟩
        · trivial
      have ok1 := ok.create sN
      have ok2 := ok1.append sN b
      have ok3 := ok2.sync sN
      have ok4 := ok3.syncDir
      rw [hC]
      (conv => whnf); repeat (refine sideI ?_; conv => whnf)
      refine AFn.useA [0] (fsAppend ok1 (by omega) (by omega) (by omega) sN b (by omega)) fun _ => ?_
      rw [hA]
      (conv => whnf); repeat (refine sideI ?_; conv => whnf)
      refine AFn.useA [0] (fsSync ok2 (by omega) (by omega) (by omega) sN) fun _ => ?_
      rw [hS]
      (conv => whnf); repeat (refine sideI ?_; conv => whnf)
      refine AFn.useA [0] (fsSyncDir ok3 (by omega) (by omega) (by omega)) fun _ => ?_
      rw [hD]
      (conv => whnf); repeat (refine sideI ?_; conv => whnf)
      generalize (((v.create sN).append sN b).sync sN).syncDir = v4 at *
      refine AFn.useA [] (bcloneR_ok b (by omega)) fun _ => ?_
      (conv => whnf); repeat (refine sideI ?_; conv => whnf)
      refine AWP.loop (X := SfB b inode (L.drop (L.length / 2)).length) (fun y => [(1, .iv (.bs b)), (2, .iv (iRow P)), (7, .ptr 0 0), (13, .row 1 1 0 y.f.now.length), (95, rowA (L.drop (L.length / 2))), (96, AV.int .i64 (L.drop (L.length / 2)).length), (97, AV.int .i64 y.i)]) (fun y => ⟨2, [(0, .sem (fsV y.v)), (1, .brow 5 y.f.now)]⟩) (fun y => (L.drop (L.length / 2)).length - y.i) (⟨0, v4, ⟨b, b, []⟩, ok4.more (by omega) (by omega) (by omega), hin, hfi, ⟨rfl, fun d hd => by cases hd⟩, Nat.zero_le _⟩) ?_ fun y => AWP.go (S := []) (cfgSfOk _ _) (.of_eq (by kernel_rfl)) ?_
      · have e3 : (L.drop (L.length / 2)).length = L.length - L.length / 2 := List.length_drop ..
        refine Ent.mk' [some 0, some 1] (by kernel_rfl) ⟨AVE.refl _, AVE.refl _, AVE.refl _, AVE.refl _, AVE.rowA _ (by rw [e3]; omega) (fun i hi => ?_), AVE.int (by rw [e3]; omega), AVE.refl _, trivial⟩ subC
        show actF (L.getD (((L.length / 2 : Nat) : Int).toNat + i) default) = _
        rw [show ((L.length / 2 : Nat) : Int).toNat = L.length / 2 by omega, getD_drop]
      · obtain ⟨i, v, f, ok, at_, hf, adds, hi⟩ := y
        have e3 : (L.drop (L.length / 2)).length = L.length - L.length / 2 := List.length_drop ..
        (conv => whnf); repeat (refine sideI ?_; conv => whnf)
        refine branchB_of (fun h1 => ?_) (fun h1 => ?_) <;> (first | replace h1 := not_t h1 | replace h1 := not_f h1 | skip) <;> (first | replace h1 := of_decide_eq_true h1 | replace h1 := of_decide_eq_false h1 | skip) <;> (first | replace h1 := Classical.not_not.1 h1 | skip) <;> (try dsimp only at h1)
        · have hlt : i < (L.drop (L.length / 2)).length := by omega
          have hfl : f.now.length ≤ 4000 + 60 * i := (ok.file hf).len
          generalize hc : (L.drop (L.length / 2)).getD ((i : Nat) : Int).toNat default = a
          have ha : a.Ok := hc ▸ getD_ok (drop_ok hLok _) _
          have hskip : VM.Ok (63 + (i + 1)) (4000 + 60 * (i + 1)) (70 + (i + 1)) v := ok.more (by omega) (by omega) (by omega)
          obtain ⟨c, he⟩ : ∃ c, List.take ((min (a.b.length : Int) 60).toNat - Int.toNat 0) (List.drop (Int.toNat 0) a.b) = c := ⟨_, rfl⟩
          have hcl : c.length ≤ 60 := by rw [← he]; simp; omega
          (conv => whnf); repeat (refine sideI ?_; conv => whnf)
          rw [hc]
          by_cases w1 : a.what = 1
          · rw [decide_eq_true w1]
            (conv => whnf); repeat (refine sideI ?_; conv => whnf)
            rw [he]
            have happ := app_file ok at_ hf adds c
            obtain ⟨in2, f', hf2, adds2, now2⟩ := happ
            have ok2 : (v.append sN c).Ok (63 + (i + 1)) (4000 + 60 * (i + 1)) (70 + (i + 1)) := (ok.append sN c).more (by omega) (by omega) (by omega)
            refine AFn.useA [0] (fsAppend ok (by omega) (by omega) (by omega) sN c (by omega)) fun _ => ?_
            (conv => whnf); repeat (refine sideI ?_; conv => whnf)
            by_cases hE : v.appendE sN c = 0
            · rw [if_pos hE] at now2
              rw [decide_eq_true hE]
              (conv => whnf); repeat (refine sideI ?_; conv => whnf)
              rw [he]
              have hl2 : f'.now.length = f.now.length + c.length := by rw [now2, List.length_append]
              refine ⟨⟨i + 1, v.append sN c, f', ok2, in2, hf2, adds2, by omega⟩, Ent.mkC [some 0, some 3] ?_, ?_⟩
              · exact ⟨⟨_, rfl, ChE.refl _⟩, ⟨_, rfl, ChE.brow (by rw [now2]; simp)⟩, trivial⟩
              · show (L.drop (L.length / 2)).length - (i + 1) < (L.drop (L.length / 2)).length - i
                omega
            · rw [if_neg hE] at now2
              rw [decide_eq_false hE]
              (conv => whnf); repeat (refine sideI ?_; conv => whnf)
              have hl2 : f'.now.length = f.now.length := by rw [now2]
              refine ⟨⟨i + 1, v.append sN c, f', ok2, in2, hf2, adds2, by omega⟩, Ent.mkC [some 0, some 1] ?_, ?_⟩
              · exact ⟨⟨_, rfl, ChE.refl _⟩, ⟨_, rfl, ChE.brow now2.symm⟩, trivial⟩
              · show (L.drop (L.length / 2)).length - (i + 1) < (L.drop (L.length / 2)).length - i
                omega
          rw [decide_eq_false w1]
          (conv => whnf); repeat (refine sideI ?_; conv => whnf)
          by_cases w2 : a.what = 2
          · rw [decide_eq_true w2]
            (conv => whnf); repeat (refine sideI ?_; conv => whnf)
            rw [he]
            have happ := app_file ok at_ hf adds c
            obtain ⟨in2, f', hf2, adds2, now2⟩ := happ
            have ok2 : (v.append sN c).Ok (63 + (i + 1)) (4000 + 60 * (i + 1)) (70 + (i + 1)) := (ok.append sN c).more (by omega) (by omega) (by omega)
            refine AFn.useA [0] (fsAppend ok (by omega) (by omega) (by omega) sN c (by omega)) fun _ => ?_
            (conv => whnf); repeat (refine sideI ?_; conv => whnf)
            by_cases hE : v.appendE sN c = 0
            · rw [if_pos hE] at now2
              rw [decide_eq_true hE]
              (conv => whnf); repeat (refine sideI ?_; conv => whnf)
              rw [he]
              have hl2 : f'.now.length = f.now.length + c.length := by rw [now2, List.length_append]
              refine ⟨⟨i + 1, v.append sN c, f', ok2, in2, hf2, adds2, by omega⟩, Ent.mkC [some 0, some 3] ?_, ?_⟩
              · exact ⟨⟨_, rfl, ChE.refl _⟩, ⟨_, rfl, ChE.brow (by rw [now2]; simp)⟩, trivial⟩
              · show (L.drop (L.length / 2)).length - (i + 1) < (L.drop (L.length / 2)).length - i
                omega
            · rw [if_neg hE] at now2
              rw [decide_eq_false hE]
              (conv => whnf); repeat (refine sideI ?_; conv => whnf)
              have hl2 : f'.now.length = f.now.length := by rw [now2]
              refine ⟨⟨i + 1, v.append sN c, f', ok2, in2, hf2, adds2, by omega⟩, Ent.mkC [some 0, some 1] ?_, ?_⟩
              · exact ⟨⟨_, rfl, ChE.refl _⟩, ⟨_, rfl, ChE.brow now2.symm⟩, trivial⟩
              · show (L.drop (L.length / 2)).length - (i + 1) < (L.drop (L.length / 2)).length - i
                omega
          rw [decide_eq_false w2]
          (conv => whnf); repeat (refine sideI ?_; conv => whnf)
          by_cases g1 : a.name = sN
          · rw [decide_eq_false (show ¬ a.name ≠ (⟨#[115, 97, 102, 101]⟩ : ByteArray).data.toList from fun h => h g1)]
            (conv => whnf); repeat (refine sideI ?_; conv => whnf)
            refine ⟨⟨i + 1, v, f, hskip, at_, hf, adds, by omega⟩, Ent.mkA [some 0, some 1], ?_⟩
            show (L.drop (L.length / 2)).length - (i + 1) < (L.drop (L.length / 2)).length - i
            omega
          rw [decide_eq_true (show a.name ≠ (⟨#[115, 97, 102, 101]⟩ : ByteArray).data.toList from g1)]
          (conv => whnf); repeat (refine sideI ?_; conv => whnf)
          by_cases g2 : a.to = sN
          · rw [decide_eq_false (show ¬ a.to ≠ (⟨#[115, 97, 102, 101]⟩ : ByteArray).data.toList from fun h => h g2)]
            (conv => whnf); repeat (refine sideI ?_; conv => whnf)
            refine ⟨⟨i + 1, v, f, hskip, at_, hf, adds, by omega⟩, Ent.mkA [some 0, some 1], ?_⟩
            show (L.drop (L.length / 2)).length - (i + 1) < (L.drop (L.length / 2)).length - i
            omega
          rw [decide_eq_true (show a.to ≠ (⟨#[115, 97, 102, 101]⟩ : ByteArray).data.toList from g2)]
          (conv => whnf); repeat (refine sideI ?_; conv => whnf)
          by_cases g11 : a.what = 11
          · rw [decide_eq_false (show ¬ a.what ≠ 11 from fun h => h g11)]
            (conv => whnf); repeat (refine sideI ?_; conv => whnf)
            refine ⟨⟨i + 1, v, f, hskip, at_, hf, adds, by omega⟩, Ent.mkA [some 0, some 1], ?_⟩
            show (L.drop (L.length / 2)).length - (i + 1) < (L.drop (L.length / 2)).length - i
            omega
          rw [decide_eq_true (show a.what ≠ 11 from g11)]
          (conv => whnf); repeat (refine sideI ?_; conv => whnf)
          refine AFn.useA [0] (fdoes_ok ok (by omega) (by omega) (by omega) ha) fun _ => ?_
          have ok2 : (v.does a).Ok (63 + (i + 1)) (4000 + 60 * (i + 1)) (70 + (i + 1)) := (ok.does ha).more (by omega) (by omega) (by omega)
          (conv => whnf); repeat (refine sideI ?_; conv => whnf)
          refine ⟨⟨i + 1, v.does a, f, ok2, atS_does at_ g1 g2, does_file ok at_ hf g1 g2 g11, adds, by omega⟩, Ent.mkA [some 0, some 1], ?_⟩
          show (L.drop (L.length / 2)).length - (i + 1) < (L.drop (L.length / 2)).length - i
          omega
        · have hsv := fsCrashBad (v := v) (P := [-1]) (by decide) (by decide)
          (conv => whnf); repeat (refine sideI ?_; conv => whnf)
          refine ACall.argsE [.ptr 0 0, .iv (iRow [-1])] ⟨AVE.refl _, AVE.irow [-1] (fun i hi => by rcases i with _ | i <;> first | rfl | (exfalso; simp at hi; done) | (exfalso; simp at hi; omega)), rfl⟩ ?_
          refine AFn.useA [0] (hsv) fun _ => ?_
          (conv => whnf); repeat (refine sideI ?_; conv => whnf)
          refine AFn.useA [] (iclone_ok P hPl) fun _ => ?_
          (conv => whnf); repeat (refine sideI ?_; conv => whnf)
          refine AWP.loop (X := { z : Nat // z ≤ P.length }) (fun z => [(1, .iv (.bs b)), (2, .row 2 1 0 P.length), (7, .ptr 0 0), (13, .row 1 1 0 f.now.length), (154, AV.int .i64 P.length), (155, AV.int .i64 z.1)]) (fun z => ⟨3, [(0, .sem (fsV v)), (1, .brow 5 f.now), (2, .rowc 3 1 P.length (iF (maskTo P z.1)))]⟩) (fun z => P.length - z.1) (⟨0, Nat.zero_le _⟩) ?_ fun z => AWP.go (S := []) (cfgSfOk _ _) (.of_eq (by kernel_rfl)) ?_
          · exact Ent.mkA [some 0, some 1, some 2]
          · obtain ⟨z, hz⟩ := z
            (conv => whnf); repeat (refine sideI ?_; conv => whnf)
            refine branchB_of (fun g1 => ?_) (fun g1 => ?_) <;> (first | replace g1 := not_t g1 | replace g1 := not_f g1 | skip) <;> (first | replace g1 := of_decide_eq_true g1 | replace g1 := of_decide_eq_false g1 | skip) <;> (first | replace g1 := Classical.not_not.1 g1 | skip) <;> (try dsimp only at g1)
            · have hzl : z < P.length := by omega
              (conv => whnf); repeat (refine sideI ?_; conv => whnf)
              refine ⟨⟨z + 1, hzl⟩, Ent.mkC [some 0, some 1, some 2] ?_, ?_⟩
              · exact ⟨⟨_, rfl, ChE.refl _⟩, ⟨_, rfl, ChE.refl _⟩, ⟨_, rfl, mask_row P hzl⟩, trivial⟩
              · show P.length - (z + 1) < P.length - z
                omega
            · have hze : z = P.length := by omega
              subst hze
              obtain ⟨s1, s2, s3, s4⟩ := safe_end ok at_ hf adds (maskAll P)
              have okw := ok.crash (maskAll P)
              (conv => whnf); repeat (refine sideI ?_; conv => whnf)
              refine ACall.freezeR 2 rfl [.ptr 0 0, .iv (.sl 1 P.length (iF (maskTo P P.length)))] ⟨AVF.same .., AVF.sl (Nat.le_refl _), rfl⟩ ?_
              rw [show AV.iv (.sl 1 P.length (iF (maskTo P P.length))) = AV.iv (iRow (maskAll P)) by rw [maskTo_all]; show _ = AV.iv (.sl 1 (maskAll P).length (iF (maskAll P))); rw [maskAll_len]]
              refine AFn.useA [0] (fsCrashGood ok (by omega) (by omega) (P := maskAll P) (by rw [maskAll_len]; omega) (maskAll_ok P)) fun _ => ?_
              (conv => whnf); repeat (refine sideI ?_; conv => whnf)
              refine AFn.useA [0] (fsOn (v := v.crash (maskAll P))) fun _ => ?_
              rw [show (!(v.crash (maskAll P)).off) = true from rfl]
              (conv => whnf); repeat (refine sideI ?_; conv => whnf)
              refine AFn.useA [0] (fsSize okw sN) fun _ => ?_
              rw [s1]
              (conv => whnf); repeat (refine sideI ?_; conv => whnf)
              refine AFn.useA [0] (fsReadAt okw (by omega) sN 0 ((v.crash (maskAll P)).size sN)) fun _ => ?_
              rw [s3]
              (conv => whnf); repeat (refine sideI ?_; conv => whnf)
              rw [decide_eq_true (show (v.crash (maskAll P)).size sN ≥ (b.length : Int) from s2)]
              (conv => whnf); repeat (refine sideI ?_; conv => whnf)
              refine ACall.freezeB 1 rfl [.iv (.bs f.now), .iv (.bs ((v.crash (maskAll P)).read sN 0 ((v.crash (maskAll P)).size sN)))] ⟨AVF.bs (by simp) (by simp), AVF.same .., rfl⟩ ?_
              refine AFn.useA [] (prefix_ok f.now ((v.crash (maskAll P)).read sN 0 ((v.crash (maskAll P)).size sN))) fun _ => ?_
              rw [decide_eq_true s4]
              (conv => whnf); repeat (refine sideI ?_; conv => whnf)
              refine ⟨_, _, Ent.mk' (e' := [(0, AV.bool true)]) (H' := ⟨0, []⟩) [] (by kernel_rfl) ?_ ?_, (), rfl, rfl⟩
              · exact ⟨AVE.refl _, trivial⟩
              · trivial
end Go.Proofs.YtpgdbeacmlojcaaGreat.Ax
