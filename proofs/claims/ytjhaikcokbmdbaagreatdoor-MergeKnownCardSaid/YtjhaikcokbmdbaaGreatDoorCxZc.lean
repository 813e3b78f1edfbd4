/-
  Closed runs: calls.
-/
import Derived.Test.YtjhaikcokbmdbaaGreatDoorCxZa
namespace Go.Proofs.YtjhaikcokbmdbaaGreatDoor.Cx
open Go.RowKit Go.Proofs.YtjhaikcokbmdbaaGreatDoor.Ax

section
variable {C : Cf} {W : World} {L : List Fin}
theorem wp_of_run {X : Cx} {rb : Option Nat} {Q0 : Exit → Act → World → Prop} {ρ0 : Rho} (hdm : X.dm = false) (hC : CallOk X.C W X.call) (hG : GOk X.C.G W) (hm : X.C.P.follows .mixedOrders = true) (hrd : RdOk X rb ρ0) (hQ : EndOk X W L ρ0 Q0) {n : Nat} {c : Code} {ds : Ds} {e : Tr CV} {H : CH} {ρ : Rho} {a : Act} {w : World}
    (h : OkIn (run X n [.seq c] ds e H) L) (hle : Rho.le ρ0 ρ) (hS : SR W ρ H w) (hE : EvS ρ X.N e ds a (fun _ => False)) : c.wpIn (FE rb) 0 X.C.P Q0 a w :=
  fun b k cs hb _ _ => run_ok hC hG hm hrd hQ b k cs hb (fun h => by rw [hdm] at h; cases h) n [.seq c] ds e H ρ a w h hle hS hE
/-- A call that was deferred. -/
theorem callsD_of_run {call : CallT} {f : Nat} {fd : Func} {c : Code} {args : Array Value} {e : Tr CV} {H : CH} {ρ : Rho} {w : World} {l : List Fin} (hC : CallOk C W call) (hG : GOk C.G W) (hm : C.P.follows .mixedOrders = true) (hfd : C.P.funcs[f]? = some fd) (hbody : fd.body = some c)
    (h : run ⟨C, call, f, fd.ntmps, none, lvD C f fd.results.toList, true⟩ 1000000 [.seq c] [] e H = .ok l) (hS : SR W ρ H w) (hE : EvS ρ fd.ntmps e [] { tmps := args ++ Array.replicate (fd.ntmps - args.size) undef, defers := [] } (fun _ => False)) :
    CallsDIn Fence.wide 0 C.P f args .returning w fun e u' w' => u' = .returning ∧ Got W ρ l e w' := by
  refine ⟨trivial, fun c₀ cs hu hr => ?_⟩
  let b : Frame := { (default : Frame) with fn := f, kind := .deferred, roundOf := none }
  have henter : Frame.enter C.P f args .deferred = b.atR { tmps := args ++ Array.replicate (fd.ntmps - args.size) undef, defers := [] } [.code c] := by
    simp [Frame.enter, Frame.atR, hfd, hbody, b]
  have hc : ({ c₀ with mode := .returning } : Frame) = c₀ := by rw [← hu]
  have hrec : recoverD (c₀ :: cs) = none := by
    simp only [recoverD, hu]
  obtain ⟨ex, a', w', hq, harr⟩ := run_ok (X := ⟨C, call, f, fd.ntmps, none, lvD C f fd.results.toList, true⟩) (rb := none) (L := l) hC hG hm (.inl ⟨rfl, rfl⟩) (lvD_ok hG) b [] (c₀ :: cs) rfl (fun _ => ⟨rfl, rfl, hrec⟩) 1000000 [.seq c] [] e H ρ _ w ⟨l, h, fun x hx => hx⟩ (Rho.le.refl _) hS hE
  have harr : ArrivesIn (Machine.fenced C.P Fence.wide) C.P (lone (b.atR { tmps := args ++ Array.replicate (fd.ntmps - args.size) undef, defers := [] } [.code c]) (c₀ :: cs) w) b [] (c₀ :: cs) ex a' w' := harr
  rw [← henter] at harr
  cases ex with
  | normal =>
    obtain ⟨hd, v, hr', hR⟩ := hq
    exact ⟨.returned v, .returning, w', _, ⟨rfl, hR⟩, (by rw [hc]; exact StepsIn.trans harr (.one (fenced_calm (fr := b.atR a' []) trivial hr rfl) (stepR_end rfl))), rfl, rfl, rfl, hd, fd, hfd, hr'⟩
  | ret =>
    obtain ⟨hd, v, hr', hR⟩ := hq
    obtain ⟨todo, hs⟩ := harr.1 rfl
    exact ⟨.returned v, .returning, w', _, ⟨rfl, hR⟩, (by rw [hc]; exact hs), rfl, rfl, rfl, hd, fd, hfd, hr'⟩
  | panic chain =>
    obtain ⟨hd, hR⟩ := hq
    obtain ⟨todo, hs⟩ := harr
    exact ⟨.panicked chain, .returning, w', _, ⟨rfl, hR⟩, (by rw [hc]; exact hs), rfl, rfl, rfl, hd, fd, hfd⟩
  | exit id => exact hq.elim
  | goto l => exact hq.elim
  | outgrown => exact hq.elim
/-- A round's end. -/
theorem endRound_run {P : Program} {w : World} {b : Nat} {st : LoopState} {pend : Option Code} {fn bd : Nat} {tv : Array Value} {params : List Nat} {asg body : Code} (hw : w.heap[b]? = some (.loop { state := st, pending := pend, fn, tmps := tv, params := params.toArray, assign := asg, body, defers := bd })) (jump : Option Code)
    (hset : (setObj b (.loop { state := if jump.isNone then .ready else .done, pending := jump, fn, tmps := tv, params := params.toArray, assign := asg, body, defers := bd })).run P w = .ok () (putObj w b (.loop { state := if jump.isNone then .ready else .done, pending := jump, fn, tmps := tv, params := params.toArray, assign := asg, body, defers := bd }))) :
    (Instr.endRound b jump).run P w = .ok (.bool jump.isNone) (putObj w b (.loop { state := if jump.isNone then .ready else .done, pending := jump, fn, tmps := tv, params := params.toArray, assign := asg, body, defers := bd })) := by
  have hgl := run_getLoop (P := P) hw
  simp only [Instr.endRound, Sem.run_bind, hgl, Result.andThen_ok, hset, Sem.run_pure]
theorem lvB_ok {fid l b m N : Nat} {call : CallT} {ρ0 : Rho} (hl : ρ0 l = some (b, m)) : EndOk ⟨C, call, fid, N, some l, lvB fid l, false⟩ W L ρ0 (roundPost C.P b (Got W ρ0 L)) := by
  refine ⟨fun j ds e H ρ a w h hle hS hE => ?_, fun ρ' v u H w' a hrd => (by cases hrd)⟩
  have h : OkIn (lvB fid l j ds e H) L := h
  unfold lvB at h
  have hlp := hle _ _ hl
  split at h
  · unfold endR at h
    split at h
    · rename_i st pend f0 N0 tm pr as0 bo dh hg
      obtain ⟨fn0, tv0, bd0, md0, q1, q2, q3, q4⟩ := hS.p hg hlp
      have fin : ∀ (jump : Option Code) (ret : Bool) (st' : LoopState), st' = (if jump.isNone then .ready else .done) → ret = jump.isNone → OkIn ((Cmd.set l (.loop st' jump f0 N0 tm pr as0 bo dh)).appK H fun H => .ok [.ret (.bool ret) H]) L →
          ∃ v w', (Instr.endRound b jump).run C.P w = .ok v w' ∧ Got W ρ0 L (.returned v) w' := by
        intro jump ret st' e1 e2 h
        subst e1 e2
        rw [Cmd.appK_eq] at h
        obtain ⟨ll, e3, h4⟩ := h
        injection e3 with e3
        subst e3
        obtain ⟨r1, r2⟩ := hS.loop (st' := if jump.isNone then .ready else .done) (pend' := jump) hg hlp q2
        exact ⟨_, _, endRound_run q2 jump (r1 C.P), _, _, ρ, h4 _ (List.mem_singleton.2 rfl), hle, r2, R_bool _⟩
      cases j with
      | nrm => exact fin none true .ready rfl rfl h
      | ret => exact fin (some .ret) false .done rfl rfl h
      | ext id => exact fin (some (.exit id)) false .done rfl rfl h
    · exact (OkIn.bad h).elim
  · exact (OkIn.bad h).elim
theorem lvA_ok {fid l b m N : Nat} {call : CallT} {ρ0 : Rho} {k : Tr CV → CH → Ans} {R : Exit → Act → World → Prop} {body : Code} (hl : ρ0 l = some (b, m))
    (hk : ∀ e H ρ a w, OkIn (k e H) L → Rho.le ρ0 ρ → SR W ρ H w → EvS ρ N e [] a (fun _ => False) → body.wpIn (FE (some b)) 0 C.P R a w) :
    EndOk ⟨C, call, fid, N, some l, lvA fid l k, false⟩ W L ρ0 (Exit.then (fun a₁ w₁ => ∃ w₂, (Instr.beginRound b).run C.P w₁ = .ok () w₂ ∧ body.wpIn (FE (some b)) 0 C.P R a₁ w₂) (fun _ _ _ => False)) := by
  refine ⟨fun j ds e H ρ a w h hle hS hE => ?_, fun ρ' v u H w' a hrd => (by cases hrd)⟩
  have h : OkIn (lvA fid l k j ds e H) L := h
  unfold lvA at h
  have hlp := hle _ _ hl
  split at h
  · split at h
    · rename_i pend f0 N0 tm pr as0 bo dh hg
      rw [Cmd.appK_eq] at h
      obtain ⟨fn0, tv0, bd0, md0, q1, q2, q3, q4⟩ := hS.p hg hlp
      obtain ⟨r1, r2⟩ := hS.loop (st' := .busy) (pend' := pend) hg hlp q2
      have hgl := run_getLoop (P := C.P) q2
      refine ⟨_, ?_, hk e _ ρ a _ h hle r2 hE⟩
      have r1 := r1 C.P
      simp only at r1 hgl
      simp only [Instr.beginRound, Sem.run_bind, hgl, Result.andThen_ok, r1, Sem.run_pure]
    · exact (OkIn.bad h).elim
  · exact (OkIn.bad h).elim
theorem envK_ok {β : Type} : ∀ (l : List CV) (n : Nat) (t : Tr CV) (k : Tr CV → β), ∃ e, envK l n t k = k e ∧ ∀ j, e.get j = if n ≤ j ∧ j < n + l.length then l[j - n]? else t.get j
  | [], n, t, k => ⟨t, rfl, fun j => by rw [if_neg (by rintro ⟨h1, h2⟩; simp only [List.length_nil] at h2; omega)]⟩
  | x :: xs, n, t, k => by
    have e : envK (x :: xs) n t k = t.setK n (some x) fun t => natK (n + 1) fun n => envK xs n t k := rfl
    rw [e, Tr.setK_eq, natK_eq]
    obtain ⟨e', h1, h2⟩ := envK_ok xs (n + 1) (t.set n (some x)) k
    refine ⟨e', h1, fun j => ?_⟩
    rw [h2 j, Tr.get_set]
    simp only [List.length_cons]
    by_cases h : j = n
    · subst h
      rw [if_neg (by omega), if_pos rfl, if_pos (by omega)]
      simp
    · rw [if_neg h]
      by_cases h3 : n + 1 ≤ j ∧ j < n + 1 + xs.length
      · rw [if_pos h3, if_pos (by omega)]
        have : j - n = (j - (n + 1)) + 1 := by omega
        rw [this]
        simp
      · rw [if_neg h3, if_neg (by omega)]
theorem bindP_ok {ρ : Rho} {N : Nat} {k : Option (Tr CV) → Ans} (hk : ∀ {L : List Fin}, OkIn (k none) L → False) : ∀ (ps : List Nat) (vs : List CV) (as : List Value) (e : Tr CV) (tv : Array Value), CV.Rs ρ vs as → tv.size = N → (∀ t v, e.get t = some v → t < N ∧ v.R ρ (tv.getD t undef)) → OkIn (bindP N ps vs e k) L →
    ∃ e', OkIn (k (some e')) L ∧ ps.length = as.length ∧ ((ps.zip as).foldl (fun tmps p => tmps.setIfInBounds p.1 p.2) tv).size = N ∧ ∀ t v, e'.get t = some v → t < N ∧ v.R ρ (((ps.zip as).foldl (fun tmps p => tmps.setIfInBounds p.1 p.2) tv).getD t undef)
  | [], vs, as, e, tv, hr, hN, he, h => by
    cases vs with
    | nil =>
      simp only [CV.Rs] at hr
      subst hr
      exact ⟨e, h, rfl, hN, he⟩
    | cons v vs => exact (hk (L := L) h).elim
  | p :: ps, vs, as, e, tv, hr, hN, he, h => by
    cases vs with
    | nil => exact (hk (L := L) h).elim
    | cons v vs =>
      simp only [CV.Rs] at hr
      obtain ⟨u, us, rfl, r, rs⟩ := hr
      have h : OkIn (bif Nat.blt p N then e.setK p (some v) fun e => bindP N ps vs e k else k none) L := h
      cases hb : Nat.blt p N with
      | false => rw [hb] at h; exact (hk (L := L) h).elim
      | true =>
        rw [hb] at h
        have hb : p < N := by rw [← Nat.blt_eq]; exact hb
        simp only [cond_true, Tr.setK_eq] at h
        obtain ⟨e', h1, h2, h3, h4⟩ := bindP_ok hk ps vs us (e.set p (some v)) (tv.setIfInBounds p u) rs (by simpa using hN) (fun t x hx => by
          rw [Tr.get_set] at hx
          rw [getD_set]
          by_cases ht : t = p
          · subst ht
            rw [if_pos rfl] at hx
            injection hx with hx
            subst hx
            rw [if_pos ⟨rfl, by omega⟩]
            exact ⟨hb, r⟩
          · rw [if_neg ht] at hx
            rw [if_neg fun h => ht h.1]
            exact he t x hx) h
        exact ⟨e', h1, by simp [h2], h3, h4⟩
/-- The externs are what is said of them. -/
def XOk (C : Cf) (W : World) : Prop := ∀ f x args H l, C.X.get f = some x → extC f x args H = .ok l → ∀ ρ w (as : List Value), SR W ρ H w → CV.Rs ρ args as → Called C W ρ l f ((callFunc f as.toArray).run C.P w)
theorem callN_ok (hG : GOk C.G W) (hm : C.P.follows .mixedOrders = true) (hX : XOk C W) : ∀ n, CallOk C W (callN C n)
  | 0 => ⟨fun f args H l h => (by cases h), fun h args H l hh => (by cases hh), fun f args H l h => (by cases h)⟩
  | n + 1 => by
    have ih := callN_ok hG hm hX n
    refine ⟨fun f args H l h ρ w as hS hR => ?_, fun hh args H l h ρ w as b m hb hS hR => ?_, fun f args H l h ρ w as hS hR => ?_⟩
    · have h : (match C.X.get f with
        | some x => extC f x args H
        | none => (match fnd C f with
          | none => .bad f 912
          | some fd => (match fd.body with
            | none => .bad f 913
            | some c => bif Nat.ble (len args) fd.ntmps && !(fd.name == "runtime.NumGoroutine") then envK args 0 .lf fun e => dedup (Nat.ble C.S n) H.next (run ⟨C, callN C n, f, fd.ntmps, none, lvF C (callN C n) f fd.results.toList, false⟩ 1000000 [.seq c] [] e H) else .bad f 926))) = .ok l := h
      split at h
      · rename_i x hx
        exact hX f x args H l hx h ρ w as hS hR
      · split at h
        · cases h
        · rename_i fd hfd
          rw [fnd_eq] at hfd
          split at h
          · cases h
          · rename_i c hbody
            cases hb : (Nat.ble (len args) fd.ntmps && !(fd.name == "runtime.NumGoroutine")) with
            | false => rw [hb] at h; cases h
            | true =>
              rw [hb] at h
              rw [Bool.and_eq_true, Bool.not_eq_true'] at hb
              have hlen := Nat.le_of_ble_eq_true hb.1
              rw [len_eq] at hlen
              simp only [cond_true] at h
              obtain ⟨e, h1, h2⟩ := envK_ok args 0 .lf (fun e => dedup (Nat.ble C.S n) H.next (run ⟨C, callN C n, f, fd.ntmps, none, lvF C (callN C n) f fd.results.toList, false⟩ 1000000 [.seq c] [] e H))
              rw [h1] at h
              obtain ⟨l0, h3, h4⟩ := dedup_ex h
              refine .inl ⟨f, as.toArray, w, ?_, ?_⟩
              · have hn : fd.body.isNone = false := by rw [hbody]; rfl
                simp only [callFunc, Sem.run_bind, run_program, Result.andThen_ok, hfd, hb.2, hn, Bool.false_eq_true, if_false, Sem.run_pure]
              · have hlas := Rs_len _ _ hR
                have hE : EvS ρ fd.ntmps e [] { tmps := as.toArray ++ Array.replicate (fd.ntmps - as.toArray.size) undef, defers := [] } (fun _ => False) := by
                  refine ⟨by simp; omega, fun t v ht _ => ?_, rfl⟩
                  rw [h2 t] at ht
                  split at ht
                  · rename_i hlt
                    rw [Nat.sub_zero] at ht
                    obtain ⟨u, hu, hvu⟩ := Rs_get _ _ _ _ hR ht
                    have hl2 : t < as.length := (List.getElem?_eq_some_iff.1 hu).1
                    refine ⟨by omega, ?_⟩
                    have : (as.toArray ++ Array.replicate (fd.ntmps - as.toArray.size) undef).getD t undef = u := by
                      rw [Array.getD_eq_getD_getElem?, Array.getElem?_append_left (by simpa using hl2)]
                      simp [hu]
                    rw [this]
                    exact hvu
                  · simp at ht
                have := wp_of_run rfl (X := ⟨C, callN C n, f, fd.ntmps, none, lvF C (callN C n) f fd.results.toList, false⟩) (rb := none) (L := l0) (Q0 := bodyPostM Fence.wide 0 C.P fd (Got W ρ l0)) ih hG hm (.inl ⟨rfl, rfl⟩) (lvF_ok hG ih) ⟨l0, h3, fun x hx => hx⟩ (Rho.le.refl _) hS hE
                exact (callsIn_of_wp_marks hfd hbody trivial this).mono (Got.dedup hS.fresh h4)
    · have h : (match H.get hh with
        | some (.loop _ _ f N tmps params asg body _) => bindP N params args tmps fun e => (match e with
          | some e => run ⟨C, callN C n, f, N, some hh, lvA f hh fun e H => run ⟨C, callN C n, f, N, some hh, lvB f hh, false⟩ 1000000 [.seq body] [] e H, false⟩ 1000000 [.seq asg] [] e H
          | none => .bad f 927)
        | _ => .bad 0 928) = .ok l := h
      split at h
      · rename_i st pend f N tmps params asg body dh hg
        obtain ⟨fn0, tv0, bd0, md0, q1, q2, q3, q4⟩ := hS.p hg hb
        obtain ⟨e', h1, h2, h3, h4⟩ := bindP_ok (L := l) (ρ := ρ) (N := N) (k := fun e => (match e with
          | some e => run ⟨C, callN C n, f, N, some hh, lvA f hh fun e H => run ⟨C, callN C n, f, N, some hh, lvB f hh, false⟩ 1000000 [.seq body] [] e H, false⟩ 1000000 [.seq asg] [] e H
          | none => .bad f 927)) (fun h => h.bad) params args as tmps tv0 hR q3 q4 ⟨l, h, fun x hx => hx⟩
        have hgl := run_getLoop (P := C.P) q2
        refine ⟨fn0, (params.zip as).foldl (fun tmps p => tmps.setIfInBounds p.1 p.2) tv0, asg, body, ?_, ?_⟩
        · have hgl : (Instr.getLoop b).run C.P w = _ := hgl
          have hsz : ¬ (as.toArray.size ≠ params.toArray.size) := by simp [h2]
          simp only [Instr.yield, Sem.run_bind, hgl, Result.andThen_ok, if_neg hsz, Sem.run_pure]
          simp
        · have hE : EvS ρ N e' [] { tmps := (params.zip as).foldl (fun tmps p => tmps.setIfInBounds p.1 p.2) tv0, defers := [] } (fun _ => False) := ⟨h3, fun t v ht _ => h4 t v ht, rfl⟩
          refine roundIn_of_wpIn trivial ?_
          exact wp_of_run rfl (X := ⟨C, callN C n, f, N, some hh, lvA f hh fun e H => run ⟨C, callN C n, f, N, some hh, lvB f hh, false⟩ 1000000 [.seq body] [] e H, false⟩) (rb := some b) (L := l) ih hG hm (.inr ⟨hh, b, m, rfl, rfl, hb⟩)
            (lvA_ok (body := body) (R := roundPost C.P b (Got W ρ l)) hb fun e H ρ' a w' hk hle hS' hE' =>
              wp_of_run rfl (X := ⟨C, callN C n, f, N, some hh, lvB f hh, false⟩) (rb := some b) (L := l) ih hG hm (.inr ⟨hh, b, m, rfl, rfl, hb⟩) (lvB_ok hb) hk hle hS' hE') h1 (Rho.le.refl _) hS hE
      · cases h
    · have h : (match fnd C f with
        | none => Ans.bad f 912
        | some fd => (match fd.body with
          | none => Ans.bad f 913
          | some c => bif Nat.ble (len args) fd.ntmps && !(fd.name == "runtime.NumGoroutine") then envK args 0 .lf fun e => dedup (Nat.ble C.S n) H.next (run ⟨C, callN C n, f, fd.ntmps, none, lvD C f fd.results.toList, true⟩ 1000000 [.seq c] [] e H) else .bad f 926)) = .ok l := h
      split at h
      · cases h
      · rename_i fd hfd
        rw [fnd_eq] at hfd
        split at h
        · cases h
        · rename_i c hbody
          cases hb : (Nat.ble (len args) fd.ntmps && !(fd.name == "runtime.NumGoroutine")) with
          | false => rw [hb] at h; cases h
          | true =>
            rw [hb] at h
            rw [Bool.and_eq_true, Bool.not_eq_true'] at hb
            have hlen := Nat.le_of_ble_eq_true hb.1
            rw [len_eq] at hlen
            simp only [cond_true] at h
            obtain ⟨e, h1, h2⟩ := envK_ok args 0 .lf (fun e => dedup (Nat.ble C.S n) H.next (run ⟨C, callN C n, f, fd.ntmps, none, lvD C f fd.results.toList, true⟩ 1000000 [.seq c] [] e H))
            rw [h1] at h
            obtain ⟨l0, h3, h4⟩ := dedup_ex h
            refine ⟨?_, ?_⟩
            · have hn : fd.body.isNone = false := by rw [hbody]; rfl
              simp only [callFunc, Sem.run_bind, run_program, Result.andThen_ok, hfd, hb.2, hn, Bool.false_eq_true, if_false, Sem.run_pure]
            · have hlas := Rs_len _ _ hR
              have hE : EvS ρ fd.ntmps e [] { tmps := as.toArray ++ Array.replicate (fd.ntmps - as.toArray.size) undef, defers := [] } (fun _ => False) := by
                refine ⟨by simp; omega, fun t v ht _ => ?_, rfl⟩
                rw [h2 t] at ht
                split at ht
                · rename_i hlt
                  rw [Nat.sub_zero] at ht
                  obtain ⟨u, hu, hvu⟩ := Rs_get _ _ _ _ hR ht
                  have hl2 : t < as.length := (List.getElem?_eq_some_iff.1 hu).1
                  refine ⟨by omega, ?_⟩
                  have : (as.toArray ++ Array.replicate (fd.ntmps - as.toArray.size) undef).getD t undef = u := by
                    rw [Array.getD_eq_getD_getElem?, Array.getElem?_append_left (by simpa using hl2)]
                    simp [hu]
                  rw [this]
                  exact hvu
                · simp at ht
              exact CallsDIn.mono (callsD_of_run ih hG hm hfd hbody h3 hS hE) fun e u' w' ⟨hu, hg⟩ => ⟨hu, Got.dedup hS.fresh h4 e w' hg⟩
end
end Go.Proofs.YtjhaikcokbmdbaaGreatDoor.Cx
