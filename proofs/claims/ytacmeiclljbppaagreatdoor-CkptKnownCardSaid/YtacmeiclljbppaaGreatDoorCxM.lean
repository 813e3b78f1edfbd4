/-
  Closed runs: maps.
-/
import Derived.Test.YtacmeiclljbppaaGreatDoorCxL
namespace Go.Proofs.YtacmeiclljbppaaGreatDoor.Cx
open Go.RowKit Go.Proofs.YtacmeiclljbppaaGreatDoor.Ax

section
variable {P : Program} {ρ : Rho} {W w : World} {H : CH}
theorem keyC_spec {kk : Option IntKind} {x : CV} {v : Value} {key : CK} (hx : x.R ρ v) (h : keyC kk x = some key) : v = key.mk.val ∧ key.mk.kind = kk ∧ key.ok := by
  unfold keyC at h
  split at h
  · rename_i l
    injection h with h
    subst h
    obtain ⟨h1, rfl⟩ := R_str' hx
    exact ⟨rfl, rfl, h1⟩
  · rename_i k n j
    cases he : eqK k j with
    | false => rw [he] at h; cases h
    | true =>
      rw [he] at h
      have := eqK_spec he
      subst this
      injection h with h
      subst h
      simp only [CV.R] at hx
      exact ⟨hx, rfl, trivial⟩
  · cases h
theorem mapT_spec {t : Nat} {kk : Option IntKind} {et : Nat} (h : mapT (mkTD P) t = some (kk, et)) : ∃ kt, P.underlying t = some (.map kt et) ∧ P.underlying kt = some (keyDesc kk) := by
  unfold mapT at h
  split at h
  · rename_i d hd
    split at h
    · rename_i kt e hk
      split at h
      · rename_i dk hdk
        split at h
        · rename_i k' hkk
          simp only [Option.some.injEq, Prod.mk.injEq] at h
          obtain ⟨rfl, rfl⟩ := h
          refine ⟨kt, u_mp hd hk, ?_⟩
          unfold keyK at hkk
          split at hkk
          · rename_i h2; injection hkk with hkk; subst hkk; exact u_str hdk h2
          · rename_i h2; injection hkk with hkk; subst hkk; exact u_int hdk h2
          · cases hkk
        · cases h
      · cases h
    · cases h
  · cases h
theorem eqKK_spec {a b : Option IntKind} (h : eqKK a b = true) : a = b := by
  unfold eqKK at h
  split at h
  · rfl
  · rw [eqK_spec h]
  · cases h
theorem ckeq_eq {a b : CK} (ha : a.ok) (hb : b.ok) : ckeq a b = decide (a.mk = b.mk) := by
  cases a <;> cases b <;> simp only [ckeq, CK.mk, reduceCtorEq, decide_false, CK.ok] at *
  · rename_i x y
    rw [lbeq_eq]
    apply decide_eq_decide.2
    simp only [MK.s.injEq]
    exact ⟨fun e => by rw [e], fun e => u8s_inj ha hb e⟩
  · rename_i k x j y
    rw [eqI_eq]
    cases he : eqK k j with
    | true =>
      have := eqK_spec he
      subst this
      simp
    | false =>
      have : k ≠ j := fun e => by subst e; cases k <;> cases he
      simp [this]
theorem mget_cons (p : CK × CV) (m : List (CK × CV)) (k : CK) : mget (p :: m) k = bif ckeq p.1 k then some p.2 else mget m k := rfl
theorem mput_cons (p : CK × CV) (m : List (CK × CV)) (k : CK) (x : CV) : mput (p :: m) k x = bif ckeq p.1 k then (p.1, x) :: m else p :: mput m k x := rfl
theorem mdel_cons (p : CK × CV) (m : List (CK × CV)) (k : CK) : mdel (p :: m) k = bif ckeq p.1 k then m else p :: mdel m k := rfl
theorem mfind_cons {X : Type} (p : MK × X) (m : List (MK × X)) (k : MK) : mfind (p :: m) k = if p.1 = k then some p.2 else mfind m k := by
  unfold mfind
  by_cases h : p.1 = k
  · rw [if_pos h, List.find?_cons_of_pos (by simpa using h)]; rfl
  · rw [if_neg h, List.find?_cons_of_neg (by simpa using h)]
theorem mget_toM {key : CK} (hk : key.ok) : ∀ (m : List (CK × CV)), (∀ q ∈ m, q.1.ok) → mfind (toM m) key.mk = mget m key
  | [], _ => rfl
  | p :: m, h => by
    have h1 := h p (List.mem_cons_self ..)
    have h2 := mget_toM hk m fun q hq => h q (List.mem_cons_of_mem _ hq)
    rw [mget_cons, ckeq_eq h1 hk, ← h2]
    show mfind ((p.1.mk, p.2) :: toM m) key.mk = _
    rw [mfind_cons]
    by_cases e : p.1.mk = key.mk <;> simp [e]
theorem mput_toM {key : CK} (hk : key.ok) (x : CV) : ∀ (m : List (CK × CV)), (∀ q ∈ m, q.1.ok) → toM (mput m key x) = Ax.mput (toM m) key.mk x ∧ ∀ q ∈ mput m key x, q.1.ok
  | [], _ => ⟨rfl, fun q hq => by
    have hq : q ∈ [(key, x)] := hq
    rw [List.mem_singleton] at hq
    subst hq
    exact hk⟩
  | p :: m, h => by
    have h1 := h p (List.mem_cons_self ..)
    obtain ⟨h2, h3⟩ := mput_toM hk x m fun q hq => h q (List.mem_cons_of_mem _ hq)
    rw [mput_cons, ckeq_eq h1 hk]
    show toM _ = Ax.mput ((p.1.mk, p.2) :: toM m) key.mk x ∧ _
    unfold Ax.mput
    by_cases e : p.1.mk = key.mk
    · simp only [e, decide_true, cond_true, if_true]
      refine ⟨by show (p.1.mk, x) :: toM m = _; rw [e], fun q hq => ?_⟩
      rcases List.mem_cons.1 hq with rfl | hq
      · exact h1
      · exact h q (List.mem_cons_of_mem _ hq)
    · simp only [e, decide_false, cond_false, if_false]
      refine ⟨by rw [← h2]; rfl, fun q hq => ?_⟩
      rcases List.mem_cons.1 hq with rfl | hq
      · exact h1
      · exact h3 q hq
theorem mdel_toM {key : CK} (hk : key.ok) : ∀ (m : List (CK × CV)), (∀ q ∈ m, q.1.ok) → ((toM m).map (·.1)).Nodup → toM (mdel m key) = Ax.mdel (toM m) key.mk ∧ ∀ q ∈ mdel m key, q ∈ m
  | [], _, _ => ⟨rfl, fun q hq => hq⟩
  | p :: m, h, hn => by
    have h1 := h p (List.mem_cons_self ..)
    have hn' : (p.1.mk :: (toM m).map (·.1)).Nodup := hn
    rw [List.nodup_cons] at hn'
    obtain ⟨h2, h3⟩ := mdel_toM hk m (fun q hq => h q (List.mem_cons_of_mem _ hq)) hn'.2
    rw [mdel_cons, ckeq_eq h1 hk]
    show toM _ = Ax.mdel ((p.1.mk, p.2) :: toM m) key.mk ∧ _
    by_cases e : p.1.mk = key.mk
    · simp only [e, decide_true, cond_true]
      refine ⟨?_, fun q hq => List.mem_cons_of_mem _ hq⟩
      unfold Ax.mdel
      rw [List.filter_cons_of_neg (by simp), List.filter_eq_self.2]
      intro q hq
      have : q.1 ≠ key.mk := fun e' => hn'.1 (by rw [e, ← e']; exact List.mem_map_of_mem hq)
      simpa using this
    · simp only [e, decide_false, cond_false]
      refine ⟨?_, fun q hq => ?_⟩
      · unfold Ax.mdel at h2 ⊢
        rw [List.filter_cons_of_pos (by simpa using e), ← h2]
        rfl
      · rcases List.mem_cons.1 hq with rfl | hq
        · exact List.mem_cons_self ..
        · exact List.mem_cons_of_mem _ (h3 q hq)
theorem R_okTup {ok b : Bool} {x : CV} {u : Value} (hx : x.R ρ u) : (okTup ok x b).R ρ (bif ok then .tuple #[u, .bool b] else u) := by
  cases ok with
  | false => exact hx
  | true => exact R_tup2 hx (R_bool b)
theorem mapAt_ok (hS : SR W ρ H w) {h b q : Nat} (hp : ρ h = some (b, q)) {kk : Option IntKind} {m : List (CK × CV)} (hm : mapAt H h = some (kk, m)) : ∃ es clock, w.heap[b]? = some (.map es clock) ∧ MapR (CV.R ρ) kk (toM m) es clock ∧ ∀ q ∈ m, q.1.ok := by
  unfold mapAt at hm
  split at hm
  · rename_i kk' ver m' hg
    injection hm with hm
    injection hm with e1 e2
    subst e1 e2
    exact hS.p hg hp
  · cases hm
  · rw [nth_eq] at hm
    cases hx : gmaps[h]? with
    | none => rw [hx] at hm; cases hm
    | some x =>
      rw [hx] at hm
      injection hm with hm
      obtain ⟨_, r, h2, h3, _, h4⟩ := hS.gm h x hx
      rw [hp] at h2
      injection h2 with h2
      injection h2 with e1 e2
      subst e1
      obtain ⟨es, clock, k1, k2, k3⟩ := Chunk.R_keep (h4 ρ) (Rho.le.refl _) (hS.base.block _ h3)
      rw [hm] at k2 k3
      exact ⟨es, clock, k1, k2, k3⟩
theorem lookC_ok (hS : SR W ρ H w) (t : Nat) (m k : CV) (ok : Bool) {v u : Value} (hm : m.R ρ v) (hk : k.R ρ u) : (lookC (mkTD P) H t m k ok).rd P ρ w (Instr.lookup t v u ok) := by
  unfold lookC
  split
  · rename_i kk et hmt
    obtain ⟨kt, hu, huk⟩ := mapT_spec hmt
    split
    · rename_i key z hkey hz
      obtain ⟨rfl, hkk, hok⟩ := keyC_spec hk hkey
      have hzr : (zeroValue et).run P w = .ok z w := by
        cases hd : mkTD P et with
        | none => rw [hd] at hz; cases hz
        | some d => rw [hd] at hz; exact r_zero hd hz w
      split
      · simp only [CV.R] at hm
        subst hm
        refine ⟨bif ok then .tuple #[z, .bool false] else z, ?_, R_okTup (R_ofV z)⟩
        have hck := run_checkKey (P := P) (w := w) true 9999 huk hkk
        have hfk := run_findKey (P := P) (w := w) huk (key := key.mk) (es := []) (r := none) rfl
        cases ok <;> simp [Instr.lookup, run_underlying hu, hck, hzr, hfk]
      · rename_i h
        simp only [CV.R] at hm
        obtain ⟨b, q, g1, rfl⟩ := hm
        split
        · rename_i kk' mm hg
          obtain ⟨es, clock, g2, g3, g4⟩ := mapAt_ok hS g1 hg
          cases he : eqKK kk kk' with
          | false => exact trivial
          | true =>
            have := eqKK_spec he
            subst this
            simp only [cond_true]
            rcases look_run (P := P) hu huk hkk hzr g2 g3 ok with ⟨q1, q2⟩ | ⟨x, y, q1, q2, q3⟩
            · rw [mget_toM hok _ g4] at q1
              rw [q1]
              exact ⟨_, q2, R_okTup (R_ofV z)⟩
            · rw [mget_toM hok _ g4] at q1
              rw [q1]
              exact ⟨_, q3, R_okTup q2⟩
        · exact trivial
      · exact trivial
    · exact trivial
  · exact trivial
theorem updC_ok (hS : SR W ρ H w) (t : Nat) (m k x : CV) {v u z : Value} (hm : m.R ρ v) (hk : k.R ρ u) (hx : x.R ρ z) : (updC (mkTD P) H t m k x).wu P W ρ H w (Instr.mapUpdate t v u z) := by
  unfold updC
  split
  · rename_i kk et hmt
    obtain ⟨kt, hu, huk⟩ := mapT_spec hmt
    split
    · rename_i key h hkey
      obtain ⟨rfl, hkk, hok⟩ := keyC_spec hk hkey
      simp only [CV.R] at hm
      obtain ⟨b, q, g1, rfl⟩ := hm
      split
      · rename_i kk' ver mm hg
        obtain ⟨es, clock, g2, g3, g4⟩ := hS.p hg g1
        cases he : eqKK kk kk' with
        | false => exact trivial
        | true =>
          have := eqKK_spec he
          subst this
          simp only [cond_true, ckK_eq]
          obtain ⟨es', clock', q1, q2⟩ := upd_run (P := P) hu huk hkk hx g2 g3
          obtain ⟨k1, k2⟩ := mput_toM hok x mm g4
          refine ⟨_, ρ, q1, Rho.le.refl _, hS.put hg g1 (.map es' clock') ⟨es', clock', putObj_same g2, by rw [k1]; exact q2, k2⟩ (fun _ _ _ _ h => by cases h) (fun _ _ _ h => by cases h; exact ⟨_, _, _, rfl, .inl (Nat.lt_succ_self _)⟩), by simp only [CV.R]⟩
      · exact trivial
    · exact trivial
  · exact trivial
theorem R_unit : (CV.tup []).R ρ (.tuple #[]) := by
  simp only [CV.R, CV.Rs]
  exact ⟨[], rfl, rfl⟩
theorem del_run2 {X : Type} {R : X → Value → Prop} {t kt et : TypeId} {kk : Option IntKind} {key : MK} {m0 : List (MK × X)} {b clock : Nat} {es : Array MapEntry} {ts : List TypeId} {ty : TypeId} (hu : P.underlying t = some (.map kt et)) (huk : P.underlying kt = some (keyDesc kk)) (hkk : key.kind = kk) (g6 : w.heap[b]? = some (.map es clock)) (g7 : MapR R kk m0 es clock) :
    ∃ es', (Builtin.delete_ (t :: ts).toArray ty #[.map (some b), key.val]).run P w = .ok (.tuple #[]) (putObj w b (.map es' clock)) ∧ MapR R kk (Ax.mdel m0 key) es' clock ∧ ∀ e ∈ es'.toList, e ∈ es.toList := by
  have hobj := run_getObj (P := P) g6 (fun _ _ _ => by simp)
  have hck := run_checkKey (P := P) (w := w) es.isEmpty 9999 huk hkk
  rcases g7.find hkk with ⟨f1, f2, f3⟩ | ⟨z, j, e, f1, f2, f3, f4, f5⟩
  · have hfk := run_findKey (P := P) (w := w) huk f2
    have hset := run_setObj (P := P) (o' := .map es clock) g6 (fun _ _ _ => by simp)
    have hd : Ax.mdel m0 key = m0 := by
      unfold Ax.mdel
      rw [List.filter_eq_self]
      intro p hp
      simpa using mfind_none f1 p hp
    exact ⟨es, by simp [Builtin.delete_, run_underlying hu, hobj, hck, hfk, hset], by rw [hd]; exact g7, fun _ h => h⟩
  · have hfk := run_findKey (P := P) (w := w) huk f2
    have hset := run_setObj (P := P) (o' := .map (es.eraseIdxIfInBounds j) clock) g6 (fun _ _ _ => by simp)
    refine ⟨_, by simp [Builtin.delete_, run_underlying hu, hobj, hck, hfk, hset], g7.erase f3 f4, fun x hx => ?_⟩
    rw [Array.eraseIdxIfInBounds] at hx
    split at hx
    · rw [Array.toList_eraseIdx] at hx
      exact List.mem_of_mem_eraseIdx hx
    · exact hx
theorem delC_ok (hS : SR W ρ H w) (t : Nat) (m k : CV) {v u : Value} (hm : m.R ρ v) (hk : k.R ρ u) (ts : List TypeId) (ty : TypeId) : (delC (mkTD P) H t m k).wr P W ρ H w (Builtin.delete_ (t :: ts).toArray ty #[v, u]) := by
  unfold delC
  split
  · rename_i kk et hmt
    obtain ⟨kt, hu, huk⟩ := mapT_spec hmt
    split
    · rename_i key h hkey
      obtain ⟨rfl, hkk, hok⟩ := keyC_spec hk hkey
      simp only [CV.R] at hm
      obtain ⟨b, q, g1, rfl⟩ := hm
      split
      · rename_i kk' ver mm hg
        obtain ⟨es, clock, g2, g3, g4⟩ := hS.p hg g1
        cases he : eqKK kk kk' with
        | false => exact trivial
        | true =>
          have := eqKK_spec he
          subst this
          simp only [cond_true]
          obtain ⟨es', q1, q2, q3⟩ := del_run2 (P := P) (ts := ts) (ty := ty) hu huk hkk g2 g3
          obtain ⟨k1, k2⟩ := mdel_toM hok mm g4 g3.keys
          refine ⟨_, _, ρ, q1, Rho.le.refl _, hS.put hg g1 (.map es' clock) ⟨es', clock, putObj_same g2, by rw [k1]; exact q2, fun q hq => g4 q (k2 q hq)⟩ (fun _ _ _ _ h => by cases h) (fun _ _ _ h => by cases h; exact ⟨_, _, _, rfl, .inr ⟨rfl, fun es0 clock0 hh => by rw [g2] at hh; cases hh; exact ⟨es', rfl, q3⟩⟩⟩), R_unit⟩
      · exact trivial
    · rename_i key hkey
      obtain ⟨rfl, hkk, hok⟩ := keyC_spec hk hkey
      simp only [CV.R] at hm
      subst hm
      have hck := run_checkKey (P := P) (w := w) true 9999 huk hkk
      refine Out.rd_wr hS (o := .old (.tup []) .nop) ⟨.tuple #[], ?_, R_unit⟩
      simp [Builtin.delete_, run_underlying hu, hck]
    · exact trivial
  · exact trivial
theorem mmapO_ok (hS : SR W ρ H w) (t : Nat) : (mmapO (mkTD P) H t).wr P W ρ H w (Instr.makeMap t none) := by
  unfold mmapO
  split
  · rename_i kk et hmt
    obtain ⟨kt, hu, huk⟩ := mapT_spec hmt
    refine ⟨.map (some w.heap.size), w.alloc (.map #[] 0), ρ.ext H.next (w.heap.size, 0), ?_, Rho.le_ext (hS.fresh _ (Nat.le_refl _)), hS.fresh1 (hS.push _) (by simp) (fun _ _ _ _ h => by cases h) ⟨#[], 0, alloc_new _ _, ⟨by simp [toM], ⟨[], List.Perm.refl _, rfl⟩, by simp [toM], by simp, by simp⟩, by simp⟩, ?_⟩
    · simp [Instr.makeMap]
    · simp only [CV.R]
      exact ⟨_, _, Rho.ext_same .., rfl⟩
  · exact trivial
end
end Go.Proofs.YtacmeiclljbppaaGreatDoor.Cx
