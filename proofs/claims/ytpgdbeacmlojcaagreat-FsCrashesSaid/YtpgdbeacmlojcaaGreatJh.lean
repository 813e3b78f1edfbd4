/-
  Chapter 07: crash by crash: the law's walk.
-/
import Derived.Test.YtpgdbeacmlojcaaGreatJg
namespace Go.Proofs.YtpgdbeacmlojcaaGreat.Ax
open Go.RowKit
set_option maxRecDepth 100000
def oneI (_ : Unit) : IV := .v (.int .i64 1)
theorem mput_oneI (l : List (List UInt8 × Unit)) (s : List UInt8) : mput (smap oneI l) (.s s) (.v (.int .i64 1)) = smap oneI (aput l s ()) := mput_smap oneI s () l
theorem maskTo_len (P : List Int) (i : Nat) : (maskTo P i).length = P.length := by
  unfold maskTo
  rw [List.length_append, List.length_map, List.length_take, List.length_drop]
  omega
theorem maskTo_get (P : List Int) {i : Nat} (h : i < P.length) (j : Nat) : (maskTo P (i + 1)).getD j 0 = if j = i then mask (P.getD i 0) else (maskTo P i).getD j 0 := by
  unfold maskTo
  simp only [List.getD_eq_getElem?_getD, List.getElem?_append, List.length_map, List.length_take]
  by_cases h1 : j = i
  · subst h1
    rw [if_pos rfl, if_pos (by omega)]
    simp [h]
  · rw [if_neg h1]
    by_cases h2 : j < i
    · rw [if_pos (by omega), if_pos (by omega)]
      simp [h2, show j < i + 1 by omega]
    · rw [if_neg (by omega), if_neg (by omega)]
      simp only [List.getElem?_drop]
      congr 2
      omega
theorem maskTo_at (P : List Int) {i : Nat} : (maskTo P i).getD i 0 = P.getD i 0 := by
  unfold maskTo
  rw [List.getD_eq_getElem?_getD, List.getElem?_append_right (by rw [List.length_map, List.length_take]; omega), List.length_map, List.length_take, List.getElem?_drop]
  rcases Nat.lt_or_ge i P.length with h | h
  · rw [show i + (i - min i P.length) = i by omega]
    rfl
  · rw [List.getElem?_eq_none (by omega), List.getD_eq_getElem?_getD, List.getElem?_eq_none h]
/-- A cell of such a row is masked. -/
theorem mask_row {e : Nat} (P : List Int) {y : Nat} (h : y < P.length) : ChE (.rowc e 1 P.length fun j => if j = 0 + ((y : Nat) : Int).toNat then layI (iF (maskTo P y) (0 + ((y : Nat) : Int).toNat)) 0 [IV.v (.int .i64 (bitK .and .i64 ((maskTo P y).getD (0 + ((y : Nat) : Int).toNat) 0) 1073741823))] else iF (maskTo P y) j) (.rowc e 1 P.length (iF (maskTo P (y + 1)))) := by
  refine ChE.row (Nat.le_refl _) fun j hj => ?_
  have e1 : 0 + ((y : Nat) : Int).toNat = y := by omega
  rw [e1]
  unfold iF
  rw [maskTo_get P h]
  by_cases g : j = y
  · subst g
    rw [if_pos rfl, if_pos rfl, maskTo_at]
    rfl
  · rw [if_neg g, if_neg g]
def maskAll (P : List Int) : List Int := P.map mask
theorem maskTo_all (P : List Int) : maskTo P P.length = maskAll P := by
  unfold maskTo maskAll
  rw [List.take_length, List.drop_length, List.append_nil]
theorem maskAll_ok (P : List Int) : (maskAll P).any (fun p => decide (p < 0)) = false := by
  rw [List.any_eq_false]
  intro p hp
  obtain ⟨q, _, rfl⟩ := List.mem_map.1 hp
  have := (mask_le q).1
  simp
  exact this
theorem maskAll_len (P : List Int) : (maskAll P).length = P.length := by simp [maskAll]
/-- How far the calls have come; the names that were there. -/
structure CrX (l : List FAct) where
  i : Nat
  v : VM
  N : List (List UInt8 × Unit)
  ok : v.Ok i (60 * i) i
  up : v.Up
  seen : v.fd.In fun m => ∀ p ∈ m, p.1 ∈ N.map (·.1)
  hi : i ≤ 60
  hil : i ≤ l.length
theorem new_seen (q : Int) (P : NM → Prop) (h : P []) : (VM.new q).fd.In P := ⟨rfl, fun j _ => by
  have : onAll (VM.new q).fd.safe ((VM.new q).fd.ds.take j) = [] := by simp [VM.new, onAll]
  rw [this]
  exact h⟩
/-- The names behind a call. -/
theorem seen_next {n B k : Nat} {v : VM} (_h : v.Ok n B k) (hu : v.Up) {N : List (List UInt8 × Unit)} (hs : v.fd.In fun m => ∀ p ∈ m, p.1 ∈ N.map (·.1)) {a : FAct} (h9 : a.what ≠ 9) (h11 : a.what ≠ 11) {N0 : List (List UInt8 × Unit)} (h0 : a.what ≠ 5 → N0 = N) :
    (v.does a).fd.In fun m => ∀ p ∈ m, p.1 ∈ (seenL N0 (v.does a).list).map (·.1) := by
  refine does_fdIn hu hs h9 h11 (fun h5 m hm p hp => ?_) fun p hp => ?_
  · rw [h0 h5, seenL_mem]
    exact .inl (hm p hp)
  · rw [seenL_mem]
    exact .inr ((list_mem (hu.does h9).off).2 (List.mem_map_of_mem hp))
set_option maxHeartbeats 4000000 in
theorem crashes_law (l : List FAct) (hl : ∀ a ∈ l, a.Ok) (P M : List Int) (hPl : P.length ≤ 17592186044416) (hMl : M.length ≤ 17592186044416) : Law Go.Proofs.Tryz.prog 4 [rowA l, .iv (iRow P), .iv (iRow M)] := by
  refine ACall.fin ?_
  refine ACall.walkF (C := cfgRf 157 0) (cfgRfOk _ _) [] (fn := Go.Proofs.Tryz.f4) (by kernel_rfl) (by kernel_rfl) rfl (by kernel_rfl) (by kernel_rfl) rfl rfl fun hlen hheap => ?_
  obtain ⟨hl1, _⟩ := hlen
  simp only [lenF] at hl1
  (conv => whnf); repeat (refine sideI ?_; conv => whnf)
  refine AFn.useA [] (new_fs 1073741824 (by decide)) fun _ => ?_
  (conv => whnf); repeat (refine sideI ?_; conv => whnf)
  refine AFn.useA [] (wakes_ok) fun _ => ?_
  (conv => whnf); repeat (refine sideI ?_; conv => whnf)
  refine AWP.merge (Y := CrX l) (fun y => [(1, .iv (iRow P)), (2, .iv (iRow M)), (7, .ptr 0 0), (9, .mp 1)]) (fun y => ⟨2, [(0, .sem (fsV y.v)), (1, .map none (smap oneI y.N))]⟩) 0 (fun y => ?_) ?_
  · obtain ⟨i, v, N, ok, up, seen, hi, hil⟩ := y
    have ok : v.Ok 60 3600 60 := ok.more (by omega) (by omega) (by omega)
    (conv => whnf); repeat (refine sideI ?_; conv => whnf)
    refine AFn.useA [] (iclone_ok P hPl) fun _ => ?_
    (conv => whnf); repeat (refine sideI ?_; conv => whnf)
    refine AFn.useA [] (iclone_ok M hMl) fun _ => ?_
    (conv => whnf); repeat (refine sideI ?_; conv => whnf)
    refine AWP.loop (X := { y : Nat // y ≤ P.length }) (fun y => [(1, .row 2 1 0 P.length), (2, .row 3 1 0 M.length), (7, .ptr 0 0), (9, .mp 1), (74, AV.int .i64 P.length), (75, AV.int .i64 y.1)]) (fun y => ⟨4, [(0, .sem (fsV v)), (1, .map none (smap oneI N)), (2, .rowc 3 1 P.length (iF (maskTo P y.1))), (3, .rowc 3 1 M.length (iF M))]⟩) (fun y => P.length - y.1) (⟨0, Nat.zero_le _⟩) ?_ fun y => AWP.go (S := []) (cfgRfOk _ _) (.of_eq (by kernel_rfl)) ?_
    · exact Ent.mkA [some 0, some 1, some 2, some 3]
    · obtain ⟨y, hy⟩ := y
      (conv => whnf); repeat (refine sideI ?_; conv => whnf)
      refine branchB_of (fun g1 => ?_) (fun g1 => ?_) <;> (first | replace g1 := not_t g1 | replace g1 := not_f g1 | skip) <;> (first | replace g1 := of_decide_eq_true g1 | replace g1 := of_decide_eq_false g1 | skip) <;> (first | replace g1 := Classical.not_not.1 g1 | skip) <;> (try dsimp only at g1)
      · have hyl : y < P.length := by omega
        (conv => whnf); repeat (refine sideI ?_; conv => whnf)
        refine ⟨⟨y + 1, hyl⟩, Ent.mkC [some 0, some 1, some 2, some 3] ?_, ?_⟩
        · exact ⟨⟨_, rfl, ChE.refl _⟩, ⟨_, rfl, ChE.refl _⟩, ⟨_, rfl, mask_row P hyl⟩, ⟨_, rfl, ChE.refl _⟩, trivial⟩
        · show P.length - (y + 1) < P.length - y
          omega
      · have hye : y = P.length := by omega
        subst hye
        (conv => whnf); repeat (refine sideI ?_; conv => whnf)
        refine AWP.loop (X := { z : Nat // z ≤ M.length }) (fun z => [(1, .iv (iRow (maskAll P))), (2, .row 2 1 0 M.length), (7, .ptr 0 0), (9, .mp 1), (86, AV.int .i64 M.length), (87, AV.int .i64 z.1)]) (fun z => ⟨3, [(0, .sem (fsV v)), (1, .map none (smap oneI N)), (2, .rowc 3 1 M.length (iF (maskTo M z.1)))]⟩) (fun z => M.length - z.1) (⟨0, Nat.zero_le _⟩) ?_ fun z => AWP.go (S := []) (cfgRfOk _ _) (.of_eq (by kernel_rfl)) ?_
        · refine (Ent.freeze 2 _ rfl rfl (e' := [(1, .iv (.sl 1 P.length (iF (maskTo P P.length)))), (2, .row 3 1 0 M.length), (7, .ptr 0 0), (9, .mp 1), (86, AV.int .i64 M.length), (87, AV.int .i64 0)]) ?_).trans (Ent.mk' [some 0, some 1, some 3] (by kernel_rfl) ?_ ?_)
          · exact ⟨AVF.sl (Nat.le_refl _), AVF.same .., AVF.same .., AVF.same .., AVF.same .., AVF.same .., trivial⟩
          · refine ⟨AVE.of_eq ?_, AVE.refl _, AVE.refl _, AVE.refl _, AVE.refl _, AVE.refl _, trivial⟩
            show AV.iv (.sl 1 P.length (iF (maskTo P P.length))) = AV.iv (.sl 1 (maskAll P).length (iF (maskAll P)))
            rw [maskTo_all, maskAll_len]
          · exact subC
        · obtain ⟨z, hz⟩ := z
          (conv => whnf); repeat (refine sideI ?_; conv => whnf)
          refine branchB_of (fun g2 => ?_) (fun g2 => ?_) <;> (first | replace g2 := not_t g2 | replace g2 := not_f g2 | skip) <;> (first | replace g2 := of_decide_eq_true g2 | replace g2 := of_decide_eq_false g2 | skip) <;> (first | replace g2 := Classical.not_not.1 g2 | skip) <;> (try dsimp only at g2)
          · have hzl : z < M.length := by omega
            (conv => whnf); repeat (refine sideI ?_; conv => whnf)
            refine ⟨⟨z + 1, hzl⟩, Ent.mkC [some 0, some 1, some 2] ?_, ?_⟩
            · exact ⟨⟨_, rfl, ChE.refl _⟩, ⟨_, rfl, ChE.refl _⟩, ⟨_, rfl, mask_row M hzl⟩, trivial⟩
            · show M.length - (z + 1) < M.length - z
              omega
          · have hze : z = M.length := by omega
            subst hze
            (conv => whnf); repeat (refine sideI ?_; conv => whnf)
            refine AFn.useA [0] (state_ok ok (by omega) (by omega)) fun _ => ?_
            (conv => whnf); repeat (refine sideI ?_; conv => whnf)
            refine AFn.useA [0] (fsCopy ok (by omega) (by omega)) fun _ => ?_
            (conv => whnf); repeat (refine sideI ?_; conv => whnf)
            have hvl := list_len v
            have hvl2 := ok.nowLen
            refine AFn.useA [3] (fsList ok (by omega)) fun _ => ?_
            (conv => whnf); repeat (refine sideI ?_; conv => whnf)
            refine AWP.loop (X := SyS v 60 3600 60) (fun q => [(1, .iv (iRow (maskAll P))), (2, .iv (iRow (maskAll M))), (7, .ptr 0 0), (9, .mp 1), (16, .iv (strRow v.stL)), (17, .ptr 2 0), (102, .iv (strRow v.list)), (103, AV.int .i64 v.list.length), (104, AV.int .i64 q.i)]) (fun q => ⟨3, [(0, .sem (fsV v)), (1, .map none (smap oneI N)), (2, .sem (fsV q.u))]⟩) (fun q => v.list.length - q.i) (⟨0, Nat.zero_le _, v, ok, up, rfl, fun _ _ => rfl, fun j hj => absurd hj (Nat.not_lt_zero _)⟩) ?_ fun q => AWP.go (S := []) (cfgRfOk _ _) (.of_eq (by kernel_rfl)) ?_
            · refine (Ent.freeze 2 _ rfl rfl (e' := [(1, .iv (iRow (maskAll P))), (2, .iv (.sl 1 M.length (iF (maskTo M M.length)))), (7, .ptr 0 0), (9, .mp 1), (16, .iv (strRow v.stL)), (17, .ptr 3 0), (102, .iv (strRow v.list)), (103, AV.int .i64 v.list.length), (104, AV.int .i64 0)]) ?_).trans (Ent.mk' [some 0, some 1, some 3] (by kernel_rfl) ?_ ?_)
              · exact ⟨AVF.same .., AVF.sl (Nat.le_refl _), AVF.same .., AVF.same .., AVF.same .., AVF.same .., AVF.same .., AVF.same .., AVF.same .., trivial⟩
              · refine ⟨AVE.refl _, AVE.of_eq ?_, AVE.refl _, AVE.refl _, AVE.refl _, AVE.refl _, AVE.refl _, AVE.refl _, AVE.refl _, trivial⟩
                show AV.iv (.sl 1 M.length (iF (maskTo M M.length))) = AV.iv (.sl 1 (maskAll M).length (iF (maskAll M)))
                rw [maskTo_all, maskAll_len]
              · exact subC
            · have hqi := q.hi
              (conv => whnf); repeat (refine sideI ?_; conv => whnf)
              refine branchB_of (fun g3 => ?_) (fun g3 => ?_) <;> (first | replace g3 := not_t g3 | replace g3 := not_f g3 | skip) <;> (first | replace g3 := of_decide_eq_true g3 | replace g3 := of_decide_eq_false g3 | skip) <;> (first | replace g3 := Classical.not_not.1 g3 | skip) <;> (try dsimp only at g3)
              · have hql : q.i < v.list.length := by omega
                obtain ⟨hE, s', h1, h2⟩ := SyS.step ok up q hql
                (conv => whnf); repeat (refine sideI ?_; conv => whnf)
                refine AFn.useA [2] (fsSync q.ok (by omega) (by omega) (by omega) (v.list.getD q.i [])) fun _ => ?_
                rw [hE]
                (conv => whnf); repeat (refine sideI ?_; conv => whnf)
                refine ⟨s', Ent.mkC [some 0, some 1, some 2] ?_, ?_⟩
                · exact ⟨⟨_, rfl, ChE.refl _⟩, ⟨_, rfl, ChE.refl _⟩, ⟨_, rfl, ChE.of_eq (by rw [h2]; rfl)⟩, trivial⟩
                · show v.list.length - s'.i < v.list.length - q.i
                  omega
              · have hqe : q.i = v.list.length := by omega
                obtain ⟨hE, hq, hup, hst⟩ := q.dir ok up hqe
                have okd := q.ok.syncDir
                have okc := okd.crash (maskAll M)
                have l1 := stL_len okc
                have l2 := stL_len ok
                have e1 : (q.u.syncDir.crash (maskAll M)).stL = v.stL := (quiet_crash okd hq hup.off _).trans hst
                (conv => whnf); repeat (refine sideI ?_; conv => whnf)
                refine AFn.useA [2] (fsSyncDir q.ok (by omega) (by omega) (by omega)) fun _ => ?_
                rw [hE]
                (conv => whnf); repeat (refine sideI ?_; conv => whnf)
                refine AFn.useA [2] (fsCrashGood okd (by omega) (by omega) (P := maskAll M) (by rw [maskAll_len]; omega) (maskAll_ok M)) fun _ => ?_
                (conv => whnf); repeat (refine sideI ?_; conv => whnf)
                refine AFn.useA [2] (state_ok okc (by omega) (by omega)) fun _ => ?_
                (conv => whnf); repeat (refine sideI ?_; conv => whnf)
                refine AFn.useA [] (equalS_ok (q.u.syncDir.crash (maskAll M)).stL v.stL (by omega) (by omega)) fun _ => ?_
                rw [decide_eq_true e1]
                (conv => whnf); repeat (refine sideI ?_; conv => whnf)
                refine AFn.useA [0] (fsCrashGood ok (by omega) (by omega) (P := maskAll P) (by rw [maskAll_len]; omega) (maskAll_ok P)) fun _ => ?_
                have okw := ok.crash (maskAll P)
                have hqw := crash_quiet ok (maskAll P)
                have huw := VM.Up.crash v (maskAll P)
                have hnw : ∀ p ∈ (v.crash (maskAll P)).fd.now, p.1 ∈ N.map (·.1) := (seen.crash (pickN (maskAll P) v.fd.ds.length : Nat)).now
                generalize v.crash (maskAll P) = w at *
                have l3 := stL_len okw
                have hwl := list_len w
                have hwl2 := okw.nowLen
                have l4 := stL_len (okw.crash (maskAll M))
                have e2 := quiet_crash okw hqw huw.off (maskAll M)
                (conv => whnf); repeat (refine sideI ?_; conv => whnf)
                refine AFn.useA [0] (state_ok okw (by omega) (by omega)) fun _ => ?_
                (conv => whnf); repeat (refine sideI ?_; conv => whnf)
                refine AFn.useA [0] (fsList okw (by omega)) fun _ => ?_
                (conv => whnf); repeat (refine sideI ?_; conv => whnf)
                refine AWP.loop (X := { r : Nat // r ≤ w.list.length }) (fun r => [(2, .iv (iRow (maskAll M))), (7, .ptr 0 0), (9, .mp 1), (20, .iv (strRow w.stL)), (136, .iv (strRow w.list)), (137, AV.int .i64 w.list.length), (138, AV.int .i64 r.1)]) (fun r => ⟨2, [(0, .sem (fsV w)), (1, .map none (smap oneI N))]⟩) (fun r => w.list.length - r.1) (⟨0, Nat.zero_le _⟩) ?_ fun r => AWP.go (S := []) (cfgRfOk _ _) (.of_eq (by kernel_rfl)) ?_
                · exact Ent.mkA [some 0, some 1]
                · obtain ⟨r, hr⟩ := r
                  (conv => whnf); repeat (refine sideI ?_; conv => whnf)
                  refine branchB_of (fun g4 => ?_) (fun g4 => ?_) <;> (first | replace g4 := not_t g4 | replace g4 := not_f g4 | skip) <;> (first | replace g4 := of_decide_eq_true g4 | replace g4 := of_decide_eq_false g4 | skip) <;> (first | replace g4 := Classical.not_not.1 g4 | skip) <;> (try dsimp only at g4)
                  · have hrl : r < w.list.length := by omega
                    have hx : w.list.getD r [] ∈ w.list := by simp [List.getD, hrl]
                    have hx2 := (list_mem huw.off).1 hx
                    obtain ⟨p, hp, e3⟩ := List.mem_map.1 hx2
                    have hxN : w.list.getD r [] ∈ N.map (·.1) := e3 ▸ hnw p hp
                    (conv => whnf); repeat (refine sideI ?_; conv => whnf)
                    rw [mfind_smap]
                    simp -iota only [Int.toNat_natCast]
                    cases hf : afind N (w.list.getD r []) with
                    | none => exact absurd hxN (afind_none.1 hf)
                    | some u =>
                      refine ⟨fun y hy => ?_, fun hy => by cases hy⟩
                      cases hy
                      (conv => whnf); repeat (refine sideI ?_; conv => whnf)
                      refine ⟨⟨r + 1, hrl⟩, Ent.mkA [some 0, some 1], ?_⟩
                      show w.list.length - (r + 1) < w.list.length - r
                      omega
                  · have hre : r = w.list.length := by omega
                    subst hre
                    (conv => whnf); repeat (refine sideI ?_; conv => whnf)
                    refine AFn.useA [0] (fsCrashGood okw (by omega) (by omega) (P := maskAll M) (by rw [maskAll_len]; omega) (maskAll_ok M)) fun _ => ?_
                    (conv => whnf); repeat (refine sideI ?_; conv => whnf)
                    refine AFn.useA [0] (state_ok (okw.crash (maskAll M)) (by omega) (by omega)) fun _ => ?_
                    (conv => whnf); repeat (refine sideI ?_; conv => whnf)
                    refine AFn.useA [] (equalS_ok (w.crash (maskAll M)).stL w.stL (by omega) (by omega)) fun _ => ?_
                    rw [decide_eq_true e2]
                    (conv => whnf); repeat (refine sideI ?_; conv => whnf)
                    refine ⟨_, _, Ent.mk' (e' := [(0, AV.bool true)]) (H' := ⟨0, []⟩) [] (by kernel_rfl) ?_ ?_, (), rfl, rfl⟩
                    · exact ⟨AVE.refl _, trivial⟩
                    · trivial
  refine AWP.loop (X := CrX l) (fun x => [(1, .iv (iRow P)), (2, .iv (iRow M)), (7, .ptr 0 0), (9, .mp 1), (34, rowA l), (35, AV.int .i64 l.length), (36, AV.int .i64 x.i)]) (fun x => ⟨2, [(0, .sem (fsV x.v)), (1, .map none (smap oneI x.N))]⟩) (fun x => 60 - x.i) (⟨0, VM.new 1073741824, [], .new (by decide) _ _ _, VM.new_up _, new_seen _ _ (fun p hp => by cases hp), by omega, by omega⟩) ?_ fun x => AWP.go (S := []) (cfgRfOk _ _) (.of_eq (by kernel_rfl)) ?_
  · exact Ent.mkA [some 0, some 1]
  · obtain ⟨i, v, N, ok, up, seen, hi, hil⟩ := x
    (conv => whnf); repeat (refine sideI ?_; conv => whnf)
    refine branchB_of (fun h => ?_) (fun h => ?_) <;> (first | replace h := not_t h | replace h := not_f h | skip) <;> (first | replace h := of_decide_eq_true h | replace h := of_decide_eq_false h | skip) <;> (first | replace h := Classical.not_not.1 h | skip) <;> (try dsimp only at h)
    rotate_left
    · (conv => whnf); repeat (refine sideI ?_; conv => whnf)
      exact ⟨⟨i, v, N, ok, up, seen, hi, hil⟩, Ent.mkA [some 0, some 1]⟩
    generalize hc : l.getD ((i : Nat) : Int).toNat default = a
    have ha : a.Ok := hc ▸ getD_ok hl _
    (conv => whnf); repeat (refine sideI ?_; conv => whnf)
    rw [hc]
    refine branchB_of (fun h2 => ?_) (fun h2 => ?_) <;> (first | replace h2 := not_t h2 | replace h2 := not_f h2 | skip) <;> (first | replace h2 := of_decide_eq_true h2 | replace h2 := of_decide_eq_false h2 | skip) <;> (first | replace h2 := Classical.not_not.1 h2 | skip) <;> (try dsimp only at h2)
    · (conv => whnf); repeat (refine sideI ?_; conv => whnf)
      exact ⟨⟨i, v, N, ok, up, seen, hi, hil⟩, Ent.mkA [some 0, some 1]⟩
    have hlt : i < 60 := by omega
    have hskip : VM.Ok (i + 1) (60 * (i + 1)) (i + 1) v := ok.more (by omega) (by omega) (by omega)
    (conv => whnf); repeat (refine sideI ?_; conv => whnf)
    by_cases g11 : a.what = 11
    · rw [decide_eq_true g11]
      (conv => whnf); repeat (refine sideI ?_; conv => whnf)
      refine ⟨⟨i + 1, v, N, hskip, up, seen, by omega, by omega⟩, Ent.mkA [some 0, some 1], ?_⟩
      show 60 - (i + 1) < 60 - i
      omega
    rw [decide_eq_false g11]
    (conv => whnf); repeat (refine sideI ?_; conv => whnf)
    by_cases g9 : a.what = 9
    · rw [decide_eq_true g9]
      (conv => whnf); repeat (refine sideI ?_; conv => whnf)
      refine ⟨⟨i + 1, v, N, hskip, up, seen, by omega, by omega⟩, Ent.mkA [some 0, some 1], ?_⟩
      show 60 - (i + 1) < 60 - i
      omega
    rw [decide_eq_false g9]
    (conv => whnf); repeat (refine sideI ?_; conv => whnf)
    refine AFn.useA [0] (fdoes_ok ok (by omega) (by omega) (by omega) ha) fun _ => ?_
    have ok2 : (v.does a).Ok (i + 1) (60 * (i + 1)) (i + 1) := (ok.does ha).more (by omega) (by omega) (by omega)
    have up2 := up.does (a := a) g9
    have hsn := fun N0 h0 => seen_next ok up seen g9 g11 (N0 := N0) h0
    have hll := list_len (v.does a)
    have hll2 := ok2.nowLen
    generalize v.does a = v' at *
    (conv => whnf); repeat (refine sideI ?_; conv => whnf)
    by_cases g5 : a.what = 5
    · rw [decide_eq_true g5]
      have hs0 := hsn [] fun h => absurd g5 h
      (conv => whnf); repeat (refine sideI ?_; conv => whnf)
      refine AFn.useA [0] (fsList ok2 (by omega)) fun _ => ?_
      (conv => whnf); repeat (refine sideI ?_; conv => whnf)
      refine AWP.loop (X := { y : Nat // y ≤ v'.list.length }) (fun y => [(1, .iv (iRow P)), (2, .iv (iRow M)), (7, .ptr 0 0), (9, .mp 1), (34, rowA l), (35, AV.int .i64 l.length), (36, AV.int .i64 i), (60, AV.int .i64 v'.list.length), (59, .iv (strRow v'.list)), (61, AV.int .i64 y.1)]) (fun y => ⟨2, [(0, .sem (fsV v')), (1, .map none (smap oneI (seenL [] (v'.list.take y.1))))]⟩) (fun y => v'.list.length - y.1) (⟨0, Nat.zero_le _⟩) ?_ fun y => AWP.go (S := []) (cfgRfOk _ _) (.of_eq (by kernel_rfl)) ?_
      · exact Ent.mkA [some 0, some 1]
      · obtain ⟨y, hy⟩ := y
        (conv => whnf); repeat (refine sideI ?_; conv => whnf)
        refine branchB_of (fun g1 => ?_) (fun g1 => ?_) <;> (first | replace g1 := not_t g1 | replace g1 := not_f g1 | skip) <;> (first | replace g1 := of_decide_eq_true g1 | replace g1 := of_decide_eq_false g1 | skip) <;> (first | replace g1 := Classical.not_not.1 g1 | skip) <;> (try dsimp only at g1)
        · have hyl : y < v'.list.length := by omega
          (conv => whnf); repeat (refine sideI ?_; conv => whnf)
          rw [mput_oneI]
          refine ⟨⟨y + 1, hyl⟩, Ent.mkC [some 0, some 1] ?_, ?_⟩
          · exact ⟨⟨_, rfl, ChE.refl _⟩, ⟨_, rfl, ChE.of_eq (by rw [seenL_succ _ hyl]; rfl)⟩, trivial⟩
          · show v'.list.length - (y + 1) < v'.list.length - y
            omega
        · have hye : y = v'.list.length := by omega
          subst hye
          (conv => whnf); repeat (refine sideI ?_; conv => whnf)
          refine ⟨⟨i + 1, v', seenL [] v'.list, ok2, up2, hs0, by omega, by omega⟩, Ent.mkC [some 0, some 1] ?_, ?_⟩
          · exact ⟨⟨_, rfl, ChE.refl _⟩, ⟨_, rfl, ChE.of_eq (by rw [List.take_length]; rfl)⟩, trivial⟩
          · show 60 - (i + 1) < 60 - i
            omega
    · rw [decide_eq_false g5]
      have hs0 := hsn N fun _ => rfl
      (conv => whnf); repeat (refine sideI ?_; conv => whnf)
      refine AFn.useA [0] (fsList ok2 (by omega)) fun _ => ?_
      (conv => whnf); repeat (refine sideI ?_; conv => whnf)
      refine AWP.loop (X := { y : Nat // y ≤ v'.list.length }) (fun y => [(1, .iv (iRow P)), (2, .iv (iRow M)), (7, .ptr 0 0), (9, .mp 1), (34, rowA l), (35, AV.int .i64 l.length), (36, AV.int .i64 i), (60, AV.int .i64 v'.list.length), (59, .iv (strRow v'.list)), (61, AV.int .i64 y.1)]) (fun y => ⟨2, [(0, .sem (fsV v')), (1, .map none (smap oneI (seenL N (v'.list.take y.1))))]⟩) (fun y => v'.list.length - y.1) (⟨0, Nat.zero_le _⟩) ?_ fun y => AWP.go (S := []) (cfgRfOk _ _) (.of_eq (by kernel_rfl)) ?_
      · exact Ent.mkA [some 0, some 1]
      · obtain ⟨y, hy⟩ := y
        (conv => whnf); repeat (refine sideI ?_; conv => whnf)
        refine branchB_of (fun g1 => ?_) (fun g1 => ?_) <;> (first | replace g1 := not_t g1 | replace g1 := not_f g1 | skip) <;> (first | replace g1 := of_decide_eq_true g1 | replace g1 := of_decide_eq_false g1 | skip) <;> (first | replace g1 := Classical.not_not.1 g1 | skip) <;> (try dsimp only at g1)
        · have hyl : y < v'.list.length := by omega
          (conv => whnf); repeat (refine sideI ?_; conv => whnf)
          rw [mput_oneI]
          refine ⟨⟨y + 1, hyl⟩, Ent.mkC [some 0, some 1] ?_, ?_⟩
          · exact ⟨⟨_, rfl, ChE.refl _⟩, ⟨_, rfl, ChE.of_eq (by rw [seenL_succ _ hyl]; rfl)⟩, trivial⟩
          · show v'.list.length - (y + 1) < v'.list.length - y
            omega
        · have hye : y = v'.list.length := by omega
          subst hye
          (conv => whnf); repeat (refine sideI ?_; conv => whnf)
          refine ⟨⟨i + 1, v', seenL N v'.list, ok2, up2, hs0, by omega, by omega⟩, Ent.mkC [some 0, some 1] ?_, ?_⟩
          · exact ⟨⟨_, rfl, ChE.refl _⟩, ⟨_, rfl, ChE.of_eq (by rw [List.take_length]; rfl)⟩, trivial⟩
          · show 60 - (i + 1) < 60 - i
            omega
end Go.Proofs.YtpgdbeacmlojcaaGreat.Ax
