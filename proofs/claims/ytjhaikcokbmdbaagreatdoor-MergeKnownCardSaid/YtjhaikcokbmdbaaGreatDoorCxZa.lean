/-
  Closed runs: a function is left; rounds; what is thrown away.
-/
import Derived.Test.YtjhaikcokbmdbaaGreatDoorCxZ
namespace Go.Proofs.YtjhaikcokbmdbaaGreatDoor.Cx
open Go.RowKit Go.Proofs.YtjhaikcokbmdbaaGreatDoor.Ax

section
variable {C : Cf} {W : World} {L : List Fin}
theorem loadVar_of {P : Program} {w : World} {t : TypeId} {x u : Value} (h : (Instr.loadAt t x).run P w = .ok u w) : (do loadVar t (← asAddr x) : Sem Value).run P w = .ok u w := by
  cases x with
  | pointer a => cases a with
    | some a => simpa [Instr.loadAt, Instr.sureAddr, asAddr] using h
    | none => simp [Instr.loadAt, Instr.sureAddr] at h
  | _ => simp [Instr.loadAt, Instr.sureAddr] at h
def resF (tmps : Array Value) (r : ResultVar) : Sem Value := match r with
  | .tmp t => pure (tmps.getD t undef)
  | .cell a t => do loadVar t (← asAddr (tmps.getD a undef))
theorem results_eq (fn : Func) (tmps : Array Value) : results fn tmps = (do
    let vs ← fn.results.mapM (resF tmps)
    pure (if h : vs.size = 1 then vs[0] else .tuple vs)) := by
  have : resF tmps = (fun
    | .tmp t => pure (tmps.getD t undef)
    | .cell a t => do loadVar t (← asAddr (tmps.getD a undef))) := by
    funext r
    cases r <;> rfl
  rw [this]
  rfl
theorem resC_ok (hG : GOk C.G W) {ρ : Rho} {N : Nat} {e : Tr CV} {ds : Ds} {tmps : Array Value} {H : CH} {w : World} (hS : SR W ρ H w) (_ : EvS ρ N e ds { tmps := tmps, defers := [] } (fun _ => False) ∨ True)
    (hslot : ∀ t v, e.get t = some v → v.R ρ (tmps.getD t undef)) (r : ResultVar) {v : CV} (h : resC C e H r = some v) :
    ∃ u, (resF tmps r).run C.P w = .ok u w ∧ v.R ρ u := by
  cases r with
  | tmp t => exact ⟨_, rfl, hslot t v h⟩
  | cell a t =>
    have hx : (opd e (.tmp a)).R ρ (tmps.getD a undef) := by
      rw [opd_tmp]
      cases hv : e.get a with
      | none => simp only [Option.getD_none, CV.R]
      | some y => exact hslot a y hv
    have hl := loadC_ok (P := C.P) hG hS t (opd e (.tmp a)) hx
    have h : (match loadC C.T C.G H t (opd e (.tmp a)) with
      | .old v .nop => some v
      | .new v .nop => some v
      | _ => none) = some v := h
    split at h
    · rename_i v' he
      injection h with h
      subst h
      have he : loadC (mkTD C.P) C.G H t (opd e (.tmp a)) = .old v' .nop := he
      rw [he] at hl
      obtain ⟨u, h1, h2⟩ := hl
      exact ⟨u, loadVar_of h1, h2⟩
    · rename_i v' he
      injection h with h
      subst h
      have he : loadC (mkTD C.P) C.G H t (opd e (.tmp a)) = .new v' .nop := he
      rw [he] at hl
      obtain ⟨u, h1, h2⟩ := hl
      exact ⟨u, loadVar_of h1, h2⟩
    · cases h
theorem resL_cons (C : Cf) (e : Tr CV) (H : CH) (r : ResultVar) (rs : List ResultVar) : resL C e H (r :: rs) = match resC C e H r, resL C e H rs with
  | some v, some l => some (v :: l)
  | _, _ => none := rfl
theorem resL_ok (hG : GOk C.G W) {ρ : Rho} {e : Tr CV} {tmps : Array Value} {H : CH} {w : World} (hS : SR W ρ H w) (hslot : ∀ t v, e.get t = some v → v.R ρ (tmps.getD t undef)) : ∀ (rs : List ResultVar) (cs : List CV), resL C e H rs = some cs →
    ∃ us : List Value, (rs.mapM (resF tmps)).run C.P w = .ok us w ∧ CV.Rs ρ cs us
  | [], cs, h => by
    have h : some [] = some cs := h
    injection h with h
    subst h
    exact ⟨[], by simp, by simp [CV.Rs]⟩
  | r :: rs, cs, h => by
    rw [resL_cons] at h
    split at h
    · rename_i v l hv hl
      injection h with h
      subst h
      obtain ⟨u, h1, h2⟩ := resC_ok (N := 0) (ds := []) hG hS (.inr trivial) hslot r hv
      obtain ⟨us, h3, h4⟩ := resL_ok hG hS hslot rs l hl
      refine ⟨u :: us, ?_, by simp only [CV.Rs]; exact ⟨_, _, rfl, h2, h4⟩⟩
      rw [List.mapM_cons]
      simp only [Sem.run_bind]
      rw [h1]
      simp only [Result.andThen_ok]
      rw [h3]
      rfl
    · cases h
theorem valC_ok (hG : GOk C.G W) {ρ : Rho} {e : Tr CV} {tmps : Array Value} {H : CH} {w : World} (hS : SR W ρ H w) (hslot : ∀ t v, e.get t = some v → v.R ρ (tmps.getD t undef)) (fid : Nat) (fn : Func) {k : CV → Ans} (h : OkIn (valC C fid fn.results.toList e H k) L) :
    ∃ v u, OkIn (k v) L ∧ (results fn tmps).run C.P w = .ok u w ∧ v.R ρ u := by
  have run : ∀ us : List Value, (fn.results.toList.mapM (resF tmps)).run C.P w = .ok us w →
      (results fn tmps).run C.P w = .ok (if h : us.toArray.size = 1 then us.toArray[0] else .tuple us.toArray) w := fun us hu => by
    rw [results_eq, Array.mapM_eq_mapM_toList]
    simp only [Sem.run_bind, Sem.run_map]
    rw [hu]
    rfl
  generalize hrs : fn.results.toList = rs at h run
  cases rs with
  | nil =>
    obtain ⟨us, h1, h2⟩ := resL_ok hG hS hslot [] [] rfl
    simp only [CV.Rs] at h2
    subst h2
    exact ⟨.tup [], .tuple #[], h, run [] h1, R_unit⟩
  | cons r rs =>
    cases rs with
    | nil =>
      have h : OkIn (match resC C e H r with
        | some v => v.fK k
        | none => .bad fid 903) L := h
      split at h
      · rename_i v hv
        rw [CV.fK_eq] at h
        obtain ⟨us, h1, h2⟩ := resL_ok hG hS hslot [r] [v] (by rw [resL_cons, hv]; rfl)
        simp only [CV.Rs] at h2
        obtain ⟨u, us', rfl, h3, rfl⟩ := h2
        exact ⟨v, u, h, run [u] h1, h3⟩
      · exact (OkIn.bad h).elim
    | cons r2 rs =>
      have h : OkIn (match resL C e H (r :: r2 :: rs) with
        | some l => CV.listK l fun l => k (.tup l)
        | none => .bad fid 904) L := h
      split at h
      · rename_i l hl
        rw [CV.listK_eq] at h
        obtain ⟨us, h1, h2⟩ := resL_ok hG hS hslot _ _ hl
        have hlen : us.length ≠ 1 := by
          have e1 := Rs_len _ _ h2
          have e2 : l.length = (r :: r2 :: rs).length := by
            have : ∀ (rs : List ResultVar) (l : List CV), resL C e H rs = some l → l.length = rs.length := by
              intro rs
              induction rs with
              | nil => intro l h; have h : some [] = some l := h; injection h with h; subst h; rfl
              | cons r rs ih =>
                intro l h
                rw [resL_cons] at h
                split at h
                · rename_i v l' _ hl'; injection h with h; subst h; simp [ih l' hl']
                · cases h
            exact this _ _ hl
          rw [e1, e2]
          simp
        refine ⟨.tup l, .tuple us.toArray, h, ?_, by simp only [CV.R]; exact ⟨us, rfl, h2⟩⟩
        rw [run us h1, dif_neg (by simpa using hlen)]
      · exact (OkIn.bad h).elim
/-- The marks of a function are taken; what it deferred is called. -/
theorem delAll_ok {fn : Func} {tmps : Array Value} {R : Ending → World → Prop} {k : CH → Ans} {call : CallT} (hC : CallOk C W call) (fid : Nat) : ∀ (ds : Ds) (l : List Deferred) (ρ : Rho) (H : CH) (w : World), (∀ ρ' H w, OkIn (k H) L → Rho.le ρ ρ' → SR W ρ' H w → LeavesInM Fence.wide 0 C.P fn tmps R [] .returning w) → MarksR ρ ds l → SR W ρ H w → OkIn (delAll call fid ds k H) L →
    LeavesInM Fence.wide 0 C.P fn tmps R l .returning w
  | [], l, ρ, H, w, hk, hm, hS, h => by
    have hm : l = [] := hm
    subst hm
    exact hk ρ H w h (Rho.le.refl _) hS
  | .mark d :: ds, l, ρ, H, w, hk, hm, hS, h => by
    obtain ⟨b, m, rest, h1, rfl, h3⟩ := hm
    have h : OkIn (delM fid d (delAll call fid ds) k H) L := h
    unfold delM at h
    split at h
    · rename_i hg
      rw [Cmd.appK_eq] at h
      have h2 : w.heap[b]? = some (.deferred (some [])) := hS.p hg h1
      have hnew := hS.new _ _ _ hg h1
      have hS' : SR W ρ (H.del d) (putObj w b (.deferred none)) := (hS.del d).other rfl rfl rfl (by simp [putObj]) fun k hk hor => by
        have : k ≠ b := by
          rcases hor with h0 | ⟨h', c, p, k1, k2, rfl⟩
          · intro e; subst e; simp only at hnew; omega
          · rw [get_del] at k1
            split at k1
            · cases k1
            · rename_i hne
              exact hS.apart _ _ _ _ _ _ k1 hg hne k2 h1
        simp [putObj, Array.getElem?_setIfInBounds_ne (Ne.symm this)]
      have hobj := run_getObj (P := C.P) h2 (fun _ _ _ => by simp)
      have hset := run_setObj (P := C.P) (o' := .deferred none) h2 (fun _ _ _ => by simp)
      refine ⟨by simp, .inl ⟨b, _, rfl, ?_, delAll_ok hC fid ds rest ρ (H.del d) _ hk h3 hS' h⟩⟩
      simp [Instr.takeDeferred, hobj, hset]
    · exact (OkIn.bad h).elim
  | .fn f args :: ds, l, ρ, H, w, hk, hm, hS, h => by
    obtain ⟨xs, cs, rest, h1, rfl, h3⟩ := hm
    have h : OkIn (bindF (call (.dfd f) args H) (fun _ H => delAll call fid ds k H) (fun _ _ => .bad fid 942)) L := h
    obtain ⟨l0, h4, h5, h6⟩ := OkIn.bind h
    obtain ⟨h7, h8⟩ := hC.dfd f args H l0 h4 ρ w (xs ++ cs) hS h1
    have hcat : xs.toArray ++ cs.toArray = (xs ++ cs).toArray := by simp
    refine ⟨by simp, .inr ⟨fun hd => (by cases hd), .func f, cs.toArray, f, (xs ++ cs).toArray, rfl, ?_, fun _ _ => trivial, ?_⟩⟩
    · show (callFunc f (xs.toArray ++ cs.toArray)).run C.P w = _
      rw [hcat]
      exact h7
    · refine CallsDIn.mono h8 fun e u' w' ⟨hu, hg⟩ => ?_
      subst hu
      cases e with
      | returned u =>
        obtain ⟨v, H', ρ', g1, g2, g3, g4⟩ := hg
        exact delAll_ok hC fid ds rest ρ' H' w' (fun ρ2 H2 w2 q1 q2 q3 => hk ρ2 H2 w2 q1 (g2.trans q2) q3) (h3.mono g2) g3 (h5 v H' g1)
      | panicked ch =>
        obtain ⟨u, v, H', ρ', _, g1, _⟩ := hg
        exact (OkIn.bad (h6 v H' g1)).elim
      | outgrown => exact hg.elim
theorem Rho.cut_le {ρ ρ' : Rho} {n : Nat} (hle : Rho.le ρ ρ') (h : ∀ j, n ≤ j → ρ j = none) : Rho.le ρ (fun j => if j < n then ρ' j else none) := fun j p hj => by
  have : j < n := by
    rcases Nat.lt_or_ge j n with h1 | h1
    · exact h1
    · rw [h j h1] at hj; cases hj
  simp only [this, if_true]
  exact hle j p hj
theorem lvF_ok (hG : GOk C.G W) {fid : Nat} {fn : Func} {call : CallT} (hC : CallOk C W call) {ρ0 : Rho} : EndOk ⟨C, call, fid, fn.ntmps, none, lvF C call fid fn.results.toList, false⟩ W L ρ0 (bodyPostM Fence.wide 0 C.P fn (Got W ρ0 L)) := by
  refine ⟨fun j ds e H ρ a w h hle hS hE => ?_, fun ρ' v u H w' a hrd hmem hle hS hv hd => ?_⟩
  · have hslot : ∀ t v, e.get t = some v → v.R ρ (a.tmps.getD t undef) := fun t v ht => (hE.slot t v ht (fun h => h)).2
    have main : OkIn (delAll call fid ds (fun H => valC C fid fn.results.toList e H fun v => .ok [.ret v H]) H) L → LeavesInM Fence.wide 0 C.P fn a.tmps (Got W ρ0 L) a.defers .returning w := fun h =>
      delAll_ok hC fid ds a.defers ρ H w (fun ρ2 H' w' h' hle2 hS' => by
        obtain ⟨v, u, h1, h2, h3⟩ := valC_ok hG hS' (fun t v ht => CV.R_mono hle2 _ _ (hslot t v ht)) fid fn h'
        obtain ⟨l, e1, h4⟩ := h1
        injection e1 with e1
        subst e1
        exact ⟨u, h2, v, H', ρ2, h4 _ (List.mem_singleton.2 rfl), hle.trans hle2, hS', h3⟩) hE.marks hS h
    cases j with
    | nrm => exact main h
    | ret => exact main h
    | ext id => exact (OkIn.bad h).elim
  · show LeavesInM Fence.wide 0 C.P fn a.tmps (Got W ρ0 L) a.defers (.panicking [{ v := u, recovered := false }]) w'
    rw [hd]
    exact ⟨u, v, H, ρ', rfl, hmem, hle, hS, hv⟩
/-- What a deferred call's body must come to. -/
theorem lvD_ok (hG : GOk C.G W) {fid : Nat} {fn : Func} {call : CallT} {ρ0 : Rho} : EndOk ⟨C, call, fid, fn.ntmps, none, lvD C fid fn.results.toList, true⟩ W L ρ0 (bodyPost C.P fn (Got W ρ0 L)) := by
  refine ⟨fun j ds e H ρ a w h hle hS hE => ?_, fun ρ' v u H w' a hrd hmem hle hS hv hd => ?_⟩
  · have hslot : ∀ t v, e.get t = some v → v.R ρ (a.tmps.getD t undef) := fun t v ht => (hE.slot t v ht (fun h => h)).2
    have main : ds = [] → OkIn (valC C fid fn.results.toList e H fun v => .ok [.ret v H]) L → a.defers = [] ∧ ∃ v, (results fn a.tmps).run C.P w = .ok v w ∧ Got W ρ0 L (.returned v) w := fun hds hv => by
      subst hds
      obtain ⟨v, u, h1, h2, h3⟩ := valC_ok hG hS hslot fid fn hv
      obtain ⟨l, e1, h4⟩ := h1
      injection e1 with e1
      subst e1
      exact ⟨hE.marks, u, h2, v, H, ρ, h4 _ (List.mem_singleton.2 rfl), hle, hS, h3⟩
    have h : OkIn (lvD C fid fn.results.toList j ds e H) L := h
    unfold lvD at h
    cases j with
    | ext id => exact (OkIn.bad h).elim
    | nrm =>
      cases ds with
      | nil => exact main rfl h
      | cons _ _ => exact (OkIn.bad h).elim
    | ret =>
      cases ds with
      | nil => exact main rfl h
      | cons _ _ => exact (OkIn.bad h).elim
  · exact ⟨hd, u, v, H, ρ', rfl, hmem, hle, hS, hv⟩
end
end Go.Proofs.YtjhaikcokbmdbaaGreatDoor.Cx
