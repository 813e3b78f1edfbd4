/-
  Closed runs: maps.
-/
import Derived.Test.YtjhaikcokbmdbaaGreatDoorCxL
import Derived.DeepKeys5
namespace Go.Proofs.YtjhaikcokbmdbaaGreatDoor.Cx
open Go.RowKit Go.Proofs.YtjhaikcokbmdbaaGreatDoor.Ax

section
variable {P : Program} {ρ : Rho} {W w : World} {H : CH}
theorem intsC_cons (x : CV) (xs : List CV) : intsC (x :: xs) = (match x, intsC xs with
  | .int k n, some l => some ((k, n) :: l)
  | _, _ => none) := rfl
theorem intsC_spec : ∀ (cs : List CV) (vs : List Value) (l : List (IntKind × Int)), CV.Rs ρ cs vs → intsC cs = some l → vs = l.map fun p => Value.int p.1 p.2
  | [], vs, l, h, hl => by
    have hl : some [] = some l := hl
    injection hl with hl
    subst hl
    simp only [CV.Rs] at h
    subst h
    rfl
  | x :: xs, vs, l, h, hl => by
    rw [intsC_cons] at hl
    simp only [CV.Rs] at h
    obtain ⟨u, us, rfl, hu, hus⟩ := h
    split at hl
    · rename_i k n l' hl'
      injection hl with hl
      subst hl
      simp only [CV.R] at hu
      rw [hu, intsC_spec xs us l' hus hl']
      rfl
    · cases hl
theorem Rs_pairs : ∀ l : List (IntKind × Int), CV.Rs ρ (mapL (fun p => CV.int p.1 p.2) l) (l.map fun p => Value.int p.1 p.2)
  | [] => by simp [mapL, CV.Rs]
  | p :: l => by
    show CV.Rs ρ (CV.int p.1 p.2 :: mapL (fun p => CV.int p.1 p.2) l) _
    simp only [List.map_cons, CV.Rs]
    exact ⟨_, _, rfl, by simp only [CV.R], Rs_pairs l⟩
theorem keyC_spec {kk : KK} {x : CV} {v : Value} {key : CK} (hx : x.R ρ v) (h : keyC kk x = some key) : v = key.mk.val ∧ key.mk.kind = kk ∧ key.ok := by
  unfold keyC at h
  split at h
  · rename_i l
    injection h with h
    subst h
    obtain ⟨h1, rfl⟩ := R_str' hx
    exact ⟨rfl, rfl, h1⟩
  · rename_i k n j
    cases he : eqK k j with
    | false => rw [he] at h; cases h
    | true =>
      rw [he] at h
      have := eqK_spec he
      subst this
      injection h with h
      subst h
      simp only [CV.R] at hx
      exact ⟨hx, rfl, trivial⟩
  · rename_i cs
    split at h
    · rename_i l hl
      injection h with h
      subst h
      simp only [CV.R] at hx
      obtain ⟨vs, rfl, hr⟩ := hx
      refine ⟨?_, rfl, trivial⟩
      show Value.agg vs.toArray = .agg (l.map fun p => Value.int p.1 p.2).toArray
      rw [intsC_spec cs vs l hr hl]
    · cases h
  · cases h
theorem mapT_spec {t : Nat} {kk : KK} {et : Nat} (h : mapT (mkTD P) t = some (kk, et)) : P.underlying t = some (.map (ktOf (mkTD P) t) et) ∧ (kk ≠ .a → P.underlying (ktOf (mkTD P) t) = some (keyDesc kk)) := by
  unfold mapT at h
  split at h
  · rename_i d hd
    split at h
    · rename_i kt e hk
      split at h
      · rename_i dk hdk
        split at h
        · rename_i k' hkk
          simp only [Option.some.injEq, Prod.mk.injEq] at h
          obtain ⟨rfl, rfl⟩ := h
          have hkt : ktOf (mkTD P) t = kt := by unfold ktOf; rw [hd]; simp only [hk]
          rw [hkt]
          refine ⟨u_mp hd hk, fun hna => ?_⟩
          unfold keyK at hkk
          split at hkk
          · rename_i h2; injection hkk with hkk; subst hkk; exact u_str hdk h2
          · rename_i h2; injection hkk with hkk; subst hkk; exact u_int hdk h2
          · rename_i h2; injection hkk with hkk; exact absurd hkk.symm hna
          · rename_i h2; injection hkk with hkk; exact absurd hkk.symm hna
          · cases hkk
        · cases h
      · cases h
    · cases h
  · cases h
theorem eqKK_spec {x y : KK} (h : eqKK x y = true) : x = y := by
  unfold eqKK at h
  split at h
  · rfl
  · rw [eqK_spec h]
  · rfl
  · cases h
theorem kieq_eq : ∀ a b : List (IntKind × Int), kieq a b = decide (a = b)
  | [], [] => by simp [kieq]
  | [], _ :: _ => by simp [kieq]
  | _ :: _, [] => by simp [kieq]
  | x :: xs, y :: ys => by
    have e : kieq (x :: xs) (y :: ys) = bif eqK x.1 y.1 && eqI x.2 y.2 then kieq xs ys else false := rfl
    rw [e, kieq_eq xs ys, eqI_eq]
    cases he : eqK x.1 y.1 with
    | true =>
      have := eqK_spec he
      by_cases h2 : x.2 = y.2
      · have : x = y := Prod.ext this h2
        simp [this]
      · have : x ≠ y := fun e => h2 (by rw [e])
        simp [this, h2]
    | false =>
      have : x ≠ y := fun e => by rw [e] at he; cases hk : y.1 <;> rw [hk] at he <;> cases he
      simp [this]
theorem ckeq_eq {a b : CK} (ha : a.ok) (hb : b.ok) : ckeq a b = decide (a.mk = b.mk) := by
  cases a <;> cases b <;> simp only [ckeq, CK.mk, reduceCtorEq, decide_false, CK.ok] at *
  · rename_i x y
    rw [lbeq_eq]
    apply decide_eq_decide.2
    simp only [MK.s.injEq]
    exact ⟨fun e => by rw [e], fun e => u8s_inj ha hb e⟩
  · rename_i k x j y
    rw [eqI_eq]
    cases he : eqK k j with
    | true =>
      have := eqK_spec he
      subst this
      simp
    | false =>
      have : k ≠ j := fun e => by subst e; cases k <;> cases he
      simp [this]
  · rename_i x y
    rw [kieq_eq]
    exact decide_eq_decide.2 ⟨fun e => by rw [e], fun e => by injection e⟩
theorem mget_cons (p : CK × CV) (m : List (CK × CV)) (k : CK) : mget (p :: m) k = bif ckeq p.1 k then some p.2 else mget m k := rfl
theorem mput_cons (p : CK × CV) (m : List (CK × CV)) (k : CK) (x : CV) : mput (p :: m) k x = bif ckeq p.1 k then (p.1, x) :: m else p :: mput m k x := rfl
theorem mdel_cons (p : CK × CV) (m : List (CK × CV)) (k : CK) : mdel (p :: m) k = bif ckeq p.1 k then m else p :: mdel m k := rfl
theorem mfind_cons {X : Type} (p : MK × X) (m : List (MK × X)) (k : MK) : mfind (p :: m) k = if p.1 = k then some p.2 else mfind m k := by
  unfold mfind
  by_cases h : p.1 = k
  · rw [if_pos h, List.find?_cons_of_pos (by simpa using h)]; rfl
  · rw [if_neg h, List.find?_cons_of_neg (by simpa using h)]
theorem mget_toM {key : CK} (hk : key.ok) : ∀ (m : List (CK × CV)), (∀ q ∈ m, q.1.ok) → mfind (toM m) key.mk = mget m key
  | [], _ => rfl
  | p :: m, h => by
    have h1 := h p (List.mem_cons_self ..)
    have h2 := mget_toM hk m fun q hq => h q (List.mem_cons_of_mem _ hq)
    rw [mget_cons, ckeq_eq h1 hk, ← h2]
    show mfind ((p.1.mk, p.2) :: toM m) key.mk = _
    rw [mfind_cons]
    by_cases e : p.1.mk = key.mk <;> simp [e]
theorem mput_toM {key : CK} (hk : key.ok) (x : CV) : ∀ (m : List (CK × CV)), (∀ q ∈ m, q.1.ok) → toM (mput m key x) = Ax.mput (toM m) key.mk x ∧ ∀ q ∈ mput m key x, q.1.ok
  | [], _ => ⟨rfl, fun q hq => by
    have hq : q ∈ [(key, x)] := hq
    rw [List.mem_singleton] at hq
    subst hq
    exact hk⟩
  | p :: m, h => by
    have h1 := h p (List.mem_cons_self ..)
    obtain ⟨h2, h3⟩ := mput_toM hk x m fun q hq => h q (List.mem_cons_of_mem _ hq)
    rw [mput_cons, ckeq_eq h1 hk]
    show toM _ = Ax.mput ((p.1.mk, p.2) :: toM m) key.mk x ∧ _
    unfold Ax.mput
    by_cases e : p.1.mk = key.mk
    · simp only [e, decide_true, cond_true, if_true]
      refine ⟨by show (p.1.mk, x) :: toM m = _; rw [e], fun q hq => ?_⟩
      rcases List.mem_cons.1 hq with rfl | hq
      · exact h1
      · exact h q (List.mem_cons_of_mem _ hq)
    · simp only [e, decide_false, cond_false, if_false]
      refine ⟨by rw [← h2]; rfl, fun q hq => ?_⟩
      rcases List.mem_cons.1 hq with rfl | hq
      · exact h1
      · exact h3 q hq
theorem mdel_toM {key : CK} (hk : key.ok) : ∀ (m : List (CK × CV)), (∀ q ∈ m, q.1.ok) → ((toM m).map (·.1)).Nodup → toM (mdel m key) = Ax.mdel (toM m) key.mk ∧ ∀ q ∈ mdel m key, q ∈ m
  | [], _, _ => ⟨rfl, fun q hq => hq⟩
  | p :: m, h, hn => by
    have h1 := h p (List.mem_cons_self ..)
    have hn' : (p.1.mk :: (toM m).map (·.1)).Nodup := hn
    rw [List.nodup_cons] at hn'
    obtain ⟨h2, h3⟩ := mdel_toM hk m (fun q hq => h q (List.mem_cons_of_mem _ hq)) hn'.2
    rw [mdel_cons, ckeq_eq h1 hk]
    show toM _ = Ax.mdel ((p.1.mk, p.2) :: toM m) key.mk ∧ _
    by_cases e : p.1.mk = key.mk
    · simp only [e, decide_true, cond_true]
      refine ⟨?_, fun q hq => List.mem_cons_of_mem _ hq⟩
      unfold Ax.mdel
      rw [List.filter_cons_of_neg (by simp), List.filter_eq_self.2]
      intro q hq
      have : q.1 ≠ key.mk := fun e' => hn'.1 (by rw [e, ← e']; exact List.mem_map_of_mem hq)
      simpa using this
    · simp only [e, decide_false, cond_false]
      refine ⟨?_, fun q hq => ?_⟩
      · unfold Ax.mdel at h2 ⊢
        rw [List.filter_cons_of_pos (by simpa using e), ← h2]
        rfl
      · rcases List.mem_cons.1 hq with rfl | hq
        · exact List.mem_cons_self ..
        · exact List.mem_cons_of_mem _ (h3 q hq)
theorem R_okTup {ok b : Bool} {x : CV} {u : Value} (hx : x.R ρ u) : (okTup ok x b).R ρ (bif ok then .tuple #[u, .bool b] else u) := by
  cases ok with
  | false => exact hx
  | true => exact R_tup2 hx (R_bool b)
theorem mapAt_ok (hS : SR W ρ H w) {h b q : Nat} (hp : ρ h = some (b, q)) {kk : KK} {m : List (CK × CV)} (hm : mapAt H h = some (kk, m)) : ∃ es clock, w.heap[b]? = some (.map es clock) ∧ MapR (CV.R ρ) kk (toM m) es clock ∧ ∀ q ∈ m, q.1.ok := by
  unfold mapAt at hm
  split at hm
  · rename_i kk' ver m' bs hg
    injection hm with hm
    injection hm with e1 e2
    subst e1 e2
    obtain ⟨es, clock, k1, k2, k3, _⟩ := hS.p hg hp
    exact ⟨es, clock, k1, k2, k3⟩
  · cases hm
  · rw [nth_eq] at hm
    cases hx : gmaps[h]? with
    | none => rw [hx] at hm; cases hm
    | some x =>
      rw [hx] at hm
      injection hm with hm
      obtain ⟨_, r, h2, h3, _, h4⟩ := hS.gm h x hx
      rw [hp] at h2
      injection h2 with h2
      injection h2 with e1 e2
      subst e1
      obtain ⟨es, clock, k1, k2, k3, _⟩ := Chunk.R_keep (h4 ρ) (Rho.le.refl _) (hS.base.block _ h3)
      rw [hm] at k2 k3
      exact ⟨es, clock, k1, k2, k3⟩
/-! What an operation at a key does, whatever keys they are. -/
structure KRun (P : Program) (kt : TypeId) (key : MK) (K : MK → Prop) : Prop where
  check : ∀ (w : World) b, (Instr.checkKey b 10000 kt key.val).run P w = .ok () w
  find : ∀ (w : World) (es : List MapEntry), (∀ e ∈ es, ∃ k, K k ∧ e.key = k.val) → ((Instr.findKey kt key.val es).run P w = .ok none w ∧ ∀ e ∈ es, e.key ≠ key.val) ∨ ∃ j e, (Instr.findKey kt key.val es).run P w = .ok (some (j, e.val)) w ∧ es[j]? = some e ∧ e.key = key.val
  stays : ∀ w : World, (Instr.keyThatStays key.val key.val).run P w = .ok key.val w
theorem KRun.scalar {kt : TypeId} {kk : KK} {key : MK} (huk : P.underlying kt = some (keyDesc kk)) (hkk : key.kind = kk) (hna : kk ≠ .a) : KRun P kt key fun k => k.kind = kk := by
  refine ⟨fun w b => run_checkKey b 9999 huk hkk, fun w es hes => ?_, fun w => by simp [Instr.keyThatStays, sameBits_key key (by rw [hkk]; exact hna)]⟩
  have same : ∀ e ∈ es, Instr.sameNow (keyDesc kk) key.val e.key = some ((Instr.sameNow (keyDesc kk) key.val e.key).getD false) := fun e he => by
    obtain ⟨k, h1, h2⟩ := hes e he
    rw [h2, same_val hkk h1 hna]
    rfl
  have hitk : ∀ e ∈ es, (Instr.sameNow (keyDesc kk) key.val e.key).getD false = true ↔ e.key = key.val := fun e he => by
    obtain ⟨k, h1, h2⟩ := hes e he
    rw [h2, same_val hkk h1 hna]
    simp only [Option.getD_some, decide_eq_true_eq]
    exact ⟨fun e => by rw [e], fun e => MK.val_inj e⟩
  have hf := findNow_hit (keyDesc kk) key.val (fun e => (Instr.sameNow (keyDesc kk) key.val e.key).getD false) es 0 same
  cases hh : findHit (fun e => (Instr.sameNow (keyDesc kk) key.val e.key).getD false) es 0 with
  | none =>
    have hn := findHit_none _ _ _ hh
    refine .inl ⟨run_findKey huk (by rw [hf, hh]), fun e he e' => ?_⟩
    have := (hitk e he).2 e'
    rw [hn e he] at this
    cases this
  | some r =>
    obtain ⟨j, v⟩ := r
    obtain ⟨e, _, h2, h3, rfl⟩ := findHit_some _ _ _ _ _ hh
    rw [Nat.sub_zero] at h2
    exact .inr ⟨j, e, run_findKey huk (by rw [hf, hh]), h2, (hitk e (List.mem_of_getElem? h2)).1 h3⟩
theorem KRun.law {kt : TypeId} {key : MK} (L : WideMaps.KeyLaw P kt) (hk : (keyOf P kt key.val).isSome = true) : KRun P kt key fun k => (keyOf P kt k.val).isSome = true := by
  obtain ⟨l, hl⟩ := Option.isSome_iff_exists.1 hk
  refine ⟨fun w b => L.check w b hl, fun w es hes => L.find w hl es fun e he => ?_, fun w => L.stays w hl⟩
  obtain ⟨k, h1, h2⟩ := hes e he
  rw [h2]
  exact Option.isSome_iff_exists.1 h1
theorem allKey_spec {kt : Nat} : ∀ {m : List (CK × CV)}, allKey P kt m = true → ∀ p ∈ m, okKey P kt p.1 = true
  | [], _, p, hp => by cases hp
  | q :: m, h, p, hp => by
    have h : (bif okKey P kt q.1 then allKey P kt m else false) = true := h
    cases hq : okKey P kt q.1 with
    | false => rw [hq] at h; cases h
    | true =>
      rw [hq] at h
      rcases List.mem_cons.1 hp with rfl | hp
      · exact hq
      · exact allKey_spec h p hp
theorem okKey_spec {kt : Nat} {k : CK} (h : okKey P kt k = true) : (keyOf P kt k.mk.val).isSome = true := by
  unfold okKey at h
  split at h
  · exact h
  · cases h
theorem krun (hlo : laidOutB P = true) {t : Nat} {kk : KK} {et : Nat} (hmt : mapT (mkTD P) t = some (kk, et)) {key : CK} (hkk : key.mk.kind = kk) {m : List (CK × CV)} (hgo : keyGo P (ktOf (mkTD P) t) kk m key = true) :
    ∃ K : MK → Prop, KRun P (ktOf (mkTD P) t) key.mk K ∧ ((∀ p ∈ toM m, p.1.kind = kk) → ∀ p ∈ toM m, K p.1) := by
  by_cases hna : kk = .a
  · subst hna
    have hgo : (lawB P (ktOf (mkTD P) t) && okKey P (ktOf (mkTD P) t) key && allKey P (ktOf (mkTD P) t) m) = true := hgo
    simp only [Bool.and_eq_true] at hgo
    obtain ⟨⟨h1, h2⟩, h3⟩ := hgo
    unfold lawB at h1
    simp only [Bool.and_eq_true, Nat.ble_eq, Nat.blt_eq] at h1
    have L : WideMaps.KeyLaw P (ktOf (mkTD P) t) := deep_law_gate hlo h1.1.1.1 h1.1.1.2 h1.1.2 h1.2
    refine ⟨_, KRun.law L (okKey_spec h2), fun _ p hp => ?_⟩
    obtain ⟨q, hq, rfl⟩ := List.mem_map.1 hp
    exact okKey_spec (allKey_spec h3 q hq)
  · exact ⟨_, KRun.scalar ((mapT_spec hmt).2 hna) hkk hna, fun h => h⟩
section
variable {X : Type} {R : X → Value → Prop} {kk : KK} {m0 : List (MK × X)} {es : Array MapEntry} {clock b t kt et : Nat} {key : MK} {K : MK → Prop}
theorem KRun.at (hk : KRun P kt key K) (g7 : MapR R kk m0 es clock) (hK : ∀ p ∈ m0, K p.1) :
    (mfind m0 key = none ∧ (Instr.findKey kt key.val es.toList).run P w = .ok none w ∧ ∀ e ∈ es.toList, e.key ≠ key.val) ∨
    ∃ x j e, mfind m0 key = some x ∧ (Instr.findKey kt key.val es.toList).run P w = .ok (some (j, e.val)) w ∧ es.toList[j]? = some e ∧ e.key = key.val ∧ R x e.val := by
  obtain ⟨l, hp, hz⟩ := g7.zip
  have mem : ∀ e ∈ es.toList, ∃ p ∈ m0, e.key = p.1.val ∧ R p.2 e.val := fun e he => hz.mem e (hp.mem_iff.2 he)
  rcases hk.find w es.toList fun e he => (let ⟨p, h1, h2, _⟩ := mem e he; ⟨p.1, hK p h1, h2⟩) with ⟨h1, h2⟩ | ⟨j, e, h1, h2, h3⟩
  · refine .inl ⟨?_, h1, h2⟩
    cases hm : mfind m0 key with
    | none => rfl
    | some x =>
      obtain ⟨e, he, hke, _⟩ := hz.mem' _ (mfind_some hm)
      exact absurd hke (h2 e (hp.mem_iff.1 he))
  · obtain ⟨p, hpm, hkp, hr⟩ := mem e (List.mem_of_getElem? h2)
    have hpk : p.1 = key := MK.val_inj (hkp.symm.trans h3)
    refine .inr ⟨p.2, j, e, ?_, h1, h2, h3, hr⟩
    cases hm : mfind m0 key with
    | none => exact absurd hpk (mfind_none hm p hpm)
    | some x =>
      have := nodup_key g7.keys hpm (mfind_some hm) hpk
      rw [this]
/-- What an update does to births. -/
def Grown (m0 : List (MK × X)) (key : MK) (es : Array MapEntry) (clock : Nat) (es' : Array MapEntry) (clock' : Nat) : Prop :=
  (mfind m0 key = none ∧ clock' = clock + 1 ∧ ∀ e ∈ es'.toList, (e ∈ es.toList ∧ e.key ≠ key.val) ∨ (e.key = key.val ∧ e.born = clock)) ∨
  (mfind m0 key ≠ none ∧ clock' = clock ∧ ∀ e ∈ es'.toList, ∃ e0 ∈ es.toList, e.key = e0.key ∧ e.born = e0.born)
theorem Grown.push (f1 : mfind m0 key = none) (f3 : ∀ e ∈ es.toList, e.key ≠ key.val) (vx : Value) : Grown m0 key es clock (es.push { key := key.val, val := vx, born := clock }) (clock + 1) := by
  refine .inl ⟨f1, rfl, fun e he => ?_⟩
  rw [Array.toList_push, List.mem_append, List.mem_singleton] at he
  rcases he with he | rfl
  · exact .inl ⟨he, f3 e he⟩
  · exact .inr ⟨rfl, rfl⟩
theorem Grown.modify {e : MapEntry} {j : Nat} (f1 : mfind m0 key ≠ none) (f3 : es.toList[j]? = some e) (f4 : e.key = key.val) (vx : Value) : Grown m0 key es clock (es.modify j fun e => { e with key := key.val, val := vx }) clock := by
  refine .inr ⟨f1, rfl, fun e' he' => ?_⟩
  obtain ⟨i, hi⟩ := List.mem_iff_getElem?.1 he'
  rw [Array.getElem?_toList, Array.getElem?_modify] at hi
  split at hi
  · rename_i h
    subst h
    have hej : es[j]? = some e := by simpa using f3
    rw [hej] at hi
    simp only [Option.map_some, Option.some.injEq] at hi
    subst hi
    exact ⟨e, List.mem_of_getElem? f3, f4.symm, rfl⟩
  · exact ⟨e', List.mem_of_getElem? (by rw [Array.getElem?_toList]; exact hi), rfl, rfl⟩
theorem look_run2 {z : Value} (hmp : P.underlying t = some (.map kt et)) (hk : KRun P kt key K) (hK : ∀ p ∈ m0, K p.1) (hzr : (zeroValue et).run P w = .ok z w) (g6 : w.heap[b]? = some (.map es clock)) (g7 : MapR R kk m0 es clock) (ok : Bool) :
    (mfind m0 key = none ∧ (Instr.lookup t (.map (some b)) key.val ok).run P w = .ok (bif ok then .tuple #[z, .bool false] else z) w) ∨ ∃ x u, mfind m0 key = some x ∧ R x u ∧ (Instr.lookup t (.map (some b)) key.val ok).run P w = .ok (bif ok then .tuple #[u, .bool true] else u) w := by
  have hobj := run_getObj (P := P) g6 (fun _ _ _ => by simp)
  have hck := hk.check w es.isEmpty
  rcases hk.at (w := w) g7 hK with ⟨f1, f2, _⟩ | ⟨x, j, e, f1, f2, f3, f4, f5⟩
  · exact .inl ⟨f1, by cases ok <;> simp [Instr.lookup, run_underlying hmp, hobj, hck, f2, hzr]⟩
  · exact .inr ⟨x, e.val, f1, f5, by cases ok <;> simp [Instr.lookup, run_underlying hmp, hobj, hck, f2]⟩
theorem upd_run2 {x : X} {vx : Value} (hu : P.underlying t = some (.map kt et)) (hk : KRun P kt key K) (hK : ∀ p ∈ m0, K p.1) (hkk : key.kind = kk) (hx : R x vx) (g6 : w.heap[b]? = some (.map es clock)) (g7 : MapR R kk m0 es clock) :
    ∃ es' clock', (Instr.mapUpdate t (.map (some b)) key.val vx).run P w = .ok () (putObj w b (.map es' clock')) ∧ MapR R kk (Ax.mput m0 key x) es' clock' ∧ Grown m0 key es clock es' clock' := by
  have hobj := run_getObj (P := P) g6 (fun _ _ _ => by simp)
  have hck := hk.check w false
  rcases hk.at (w := w) g7 hK with ⟨f1, f2, f3⟩ | ⟨z, j, e, f1, f2, f3, f4, f5⟩
  · have hset := run_setObj (P := P) (o' := .map (es.push { key := key.val, val := vx, born := clock }) (clock + 1)) g6 (fun _ _ _ => by simp)
    exact ⟨_, _, by simp [Instr.mapUpdate, run_underlying hu, hobj, hck, f2, hset], g7.push hkk f3 hx, Grown.push f1 f3 vx⟩
  · have hset := run_setObj (P := P) (o' := .map (es.modify j fun e => { e with key := key.val, val := vx }) clock) g6 (fun _ _ _ => by simp)
    have hej : es[j]? = some e := by simpa using f3
    have hstay : (Instr.keyThatStays (((es[j]?).map (·.key)).getD key.val) key.val).run P w = .ok key.val w := by
      simp [hej, f4, hk.stays w]
    refine ⟨_, _, ?_, g7.update f3 f4 hx, Grown.modify (by rw [f1]; simp) f3 f4 vx⟩
    simp only [Instr.mapUpdate, Sem.run_bind, run_underlying hu, Result.andThen_ok, hobj, hck, f2, hstay, hset]
theorem del_run2 {ts : List TypeId} {ty : TypeId} (hu : P.underlying t = some (.map kt et)) (hk : KRun P kt key K) (hK : ∀ p ∈ m0, K p.1) (g6 : w.heap[b]? = some (.map es clock)) (g7 : MapR R kk m0 es clock) :
    ∃ es', (Builtin.delete_ (t :: ts).toArray ty #[.map (some b), key.val]).run P w = .ok (.tuple #[]) (putObj w b (.map es' clock)) ∧ MapR R kk (Ax.mdel m0 key) es' clock ∧ ∀ e ∈ es'.toList, e ∈ es.toList := by
  have hobj := run_getObj (P := P) g6 (fun _ _ _ => by simp)
  have hck := hk.check w es.isEmpty
  rcases hk.at (w := w) g7 hK with ⟨f1, f2, f3⟩ | ⟨z, j, e, f1, f2, f3, f4, f5⟩
  · have hset := run_setObj (P := P) (o' := .map es clock) g6 (fun _ _ _ => by simp)
    have hd : Ax.mdel m0 key = m0 := by
      unfold Ax.mdel
      rw [List.filter_eq_self]
      intro p hp
      simpa using mfind_none f1 p hp
    exact ⟨es, by simp [Builtin.delete_, run_underlying hu, hobj, hck, f2, hset], by rw [hd]; exact g7, fun _ h => h⟩
  · have hset := run_setObj (P := P) (o' := .map (es.eraseIdxIfInBounds j) clock) g6 (fun _ _ _ => by simp)
    refine ⟨_, by simp [Builtin.delete_, run_underlying hu, hobj, hck, f2, hset], g7.erase f3 f4, fun x hx => ?_⟩
    rw [Array.eraseIdxIfInBounds] at hx
    split at hx
    · rw [Array.toList_eraseIdx] at hx
      exact List.mem_of_mem_eraseIdx hx
    · exact hx
end
theorem bget_cons (p : CK × Nat) (l : List (CK × Nat)) (k : CK) : bget (p :: l) k = bif ckeq p.1 k then some p.2 else bget l k := rfl
theorem Grown.bsUp {m : List (CK × CV)} {key : CK} {bs : Option (Nat × List (CK × Nat))} {es es' : Array MapEntry} {clock clock' : Nat} (hok : key.ok) (hm : ∀ q ∈ m, q.1.ok) (h : BsR bs es clock) (hg : Grown (toM m) key.mk es clock es' clock') : BsR (bsUp bs m key) es' clock' := by
  cases bs with
  | none => exact BsR.none _ _
  | some p =>
    obtain ⟨c, l⟩ := p
    obtain ⟨h1, h2, h3⟩ := h c l rfl
    have e : Cx.bsUp (some (c, l)) m key = bif hasC m key then some (c, l) else some (c + 1, (key, c) :: l) := rfl
    rw [e]
    unfold hasC
    unfold Grown at hg
    rw [mget_toM hok m hm] at hg
    rcases hg with ⟨g1, g2, g3⟩ | ⟨g1, g2, g3⟩
    · rw [g1]
      intro c' l' h'
      injection h' with h'
      injection h' with e1 e2
      subst e1 e2
      refine ⟨by rw [g2, h1], fun q hq => ?_, fun e he k hk hek => ?_⟩
      · rcases List.mem_cons.1 hq with rfl | hq
        · exact hok
        · exact h2 q hq
      · rw [bget_cons, ckeq_eq hok hk]
        rcases g3 e he with ⟨g4, g5⟩ | ⟨g4, g5⟩
        · have : key.mk ≠ k.mk := fun e' => g5 (by rw [hek, e'])
          rw [decide_eq_false this]
          exact h3 e g4 k hk hek
        · have : key.mk = k.mk := MK.val_inj (by rw [← g4, hek])
          rw [decide_eq_true this, g5, h1]
          rfl
    · cases hx : mget m key with
      | none => exact absurd hx g1
      | some x =>
        intro c' l' h'
        injection h' with h'
        injection h' with e1 e2
        subst e1 e2
        refine ⟨by rw [g2, h1], h2, fun e he k hk hek => ?_⟩
        obtain ⟨e0, he0, q1, q2⟩ := g3 e he
        rw [q2]
        exact h3 e0 he0 k hk (by rw [← q1, hek])
theorem bkey_spec {n : Nat} {k : CK} : ∀ {l : List (CK × Nat)}, bkey l n = some k → ∃ b, (k, b) ∈ l
  | [], h => by cases h
  | p :: l, h => by
    have h : (bif Nat.beq p.2 n then some p.1 else bkey l n) = some k := h
    cases hb : Nat.beq p.2 n with
    | true =>
      rw [hb] at h
      injection h with h
      subst h
      exact ⟨p.2, List.mem_cons_self ..⟩
    | false =>
      rw [hb] at h
      obtain ⟨b, hb⟩ := bkey_spec h
      exact ⟨b, List.mem_cons_of_mem _ hb⟩
theorem lookC_ok (hlo : laidOutB P = true) (hS : SR W ρ H w) (t : Nat) (m k : CV) (ok : Bool) {v u : Value} (hm : m.R ρ v) (hk : k.R ρ u) : (lookC P (mkTD P) H t m k ok).rd P ρ w (Instr.lookup t v u ok) := by
  unfold lookC
  split
  · rename_i kk et hmt
    obtain ⟨hu, _⟩ := mapT_spec hmt
    split
    · rename_i key z hkey hz
      obtain ⟨rfl, hkk, hok⟩ := keyC_spec hk hkey
      have hzr : (zeroValue et).run P w = .ok z w := by
        cases hd : mkTD P et with
        | none => rw [hd] at hz; cases hz
        | some d => rw [hd] at hz; exact r_zero hd hz w
      split
      · simp only [CV.R] at hm
        subst hm
        cases hgo : keyGo P (ktOf (mkTD P) t) kk [] key with
        | false => exact trivial
        | true =>
        simp only [cond_true]
        obtain ⟨K, hK, _⟩ := krun hlo hmt hkk hgo
        refine ⟨bif ok then .tuple #[z, .bool false] else z, ?_, R_okTup (R_ofV z)⟩
        have hck := hK.check w true
        have hfk : (Instr.findKey (ktOf (mkTD P) t) key.mk.val []).run P w = .ok none w := by
          rcases hK.find w [] fun e he => (by cases he) with ⟨h1, _⟩ | ⟨j, e, _, h2, _⟩
          · exact h1
          · simp at h2
        cases ok <;> simp [Instr.lookup, run_underlying hu, hck, hzr, hfk]
      · rename_i h
        simp only [CV.R] at hm
        obtain ⟨b, q, g1, rfl⟩ := hm
        split
        · rename_i kk' mm hg
          obtain ⟨es, clock, g2, g3, g4⟩ := mapAt_ok hS g1 hg
          cases he : (eqKK kk kk' && keyGo P (ktOf (mkTD P) t) kk mm key) with
          | false => exact trivial
          | true =>
            rw [Bool.and_eq_true] at he
            have := eqKK_spec he.1
            subst this
            simp only [cond_true]
            obtain ⟨K, hK, hall⟩ := krun hlo hmt hkk he.2
            rcases look_run2 (P := P) hu hK (hall g3.kind) hzr g2 g3 ok with ⟨q1, q2⟩ | ⟨x, y, q1, q2, q3⟩
            · rw [mget_toM hok _ g4] at q1
              rw [q1]
              exact ⟨_, q2, R_okTup (R_ofV z)⟩
            · rw [mget_toM hok _ g4] at q1
              rw [q1]
              exact ⟨_, q3, R_okTup q2⟩
        · exact trivial
      · exact trivial
    · exact trivial
  · exact trivial
theorem updC_ok (hlo : laidOutB P = true) (hS : SR W ρ H w) (t : Nat) (m k x : CV) {v u z : Value} (hm : m.R ρ v) (hk : k.R ρ u) (hx : x.R ρ z) : (updC P (mkTD P) H t m k x).wu P W ρ H w (Instr.mapUpdate t v u z) := by
  unfold updC
  split
  · rename_i kk et hmt
    obtain ⟨hu, _⟩ := mapT_spec hmt
    split
    · rename_i key h hkey
      obtain ⟨rfl, hkk, hok⟩ := keyC_spec hk hkey
      simp only [CV.R] at hm
      obtain ⟨b, q, g1, rfl⟩ := hm
      split
      · rename_i kk' ver mm bs hg
        obtain ⟨es, clock, g2, g3, g4, g5⟩ := hS.p hg g1
        cases he : (eqKK kk kk' && keyGo P (ktOf (mkTD P) t) kk mm key) with
        | false => exact trivial
        | true =>
          rw [Bool.and_eq_true] at he
          have := eqKK_spec he.1
          subst this
          simp only [cond_true, ckK_eq]
          obtain ⟨K, hK, hall⟩ := krun hlo hmt hkk he.2
          obtain ⟨es', clock', q1, q2, q3⟩ := upd_run2 (P := P) hu hK (hall g3.kind) hkk hx g2 g3
          obtain ⟨k1, k2⟩ := mput_toM hok x mm g4
          refine ⟨_, ρ, q1, Rho.le.refl _, hS.put hg g1 (.map es' clock') ⟨es', clock', putObj_same g2, by rw [k1]; exact q2, k2, q3.bsUp hok g4 g5⟩ (fun _ _ _ _ h => by cases h) (fun _ _ _ _ h => by cases h; exact ⟨_, _, _, _, rfl, .inl (Nat.lt_succ_self _)⟩), by simp only [CV.R]⟩
      · exact trivial
    · exact trivial
  · exact trivial
theorem R_unit : (CV.tup []).R ρ (.tuple #[]) := by
  simp only [CV.R, CV.Rs]
  exact ⟨[], rfl, rfl⟩
theorem delC_ok (hlo : laidOutB P = true) (hS : SR W ρ H w) (t : Nat) (m k : CV) {v u : Value} (hm : m.R ρ v) (hk : k.R ρ u) (ts : List TypeId) (ty : TypeId) : (delC P (mkTD P) H t m k).wr P W ρ H w (Builtin.delete_ (t :: ts).toArray ty #[v, u]) := by
  unfold delC
  split
  · rename_i kk et hmt
    obtain ⟨hu, _⟩ := mapT_spec hmt
    split
    · rename_i key h hkey
      obtain ⟨rfl, hkk, hok⟩ := keyC_spec hk hkey
      simp only [CV.R] at hm
      obtain ⟨b, q, g1, rfl⟩ := hm
      split
      · rename_i kk' ver mm bs hg
        obtain ⟨es, clock, g2, g3, g4, g5⟩ := hS.p hg g1
        cases he : (eqKK kk kk' && keyGo P (ktOf (mkTD P) t) kk mm key) with
        | false => exact trivial
        | true =>
          rw [Bool.and_eq_true] at he
          have := eqKK_spec he.1
          subst this
          simp only [cond_true]
          obtain ⟨K, hK, hall⟩ := krun hlo hmt hkk he.2
          obtain ⟨es', q1, q2, q3⟩ := del_run2 (P := P) (ts := ts) (ty := ty) hu hK (hall g3.kind) g2 g3
          obtain ⟨k1, k2⟩ := mdel_toM hok mm g4 g3.keys
          refine ⟨_, _, ρ, q1, Rho.le.refl _, hS.put hg g1 (.map es' clock) ⟨es', clock, putObj_same g2, by rw [k1]; exact q2, fun q hq => g4 q (k2 q hq), fun c l h => ⟨(g5 c l h).1, (g5 c l h).2.1, fun e he => (g5 c l h).2.2 e (q3 e he)⟩⟩ (fun _ _ _ _ h => by cases h) (fun _ _ _ _ h => by cases h; exact ⟨_, _, _, _, rfl, .inr ⟨rfl, fun es0 clock0 hh => by rw [g2] at hh; cases hh; exact ⟨es', rfl, q3⟩⟩⟩), R_unit⟩
      · exact trivial
    · rename_i key hkey
      obtain ⟨rfl, hkk, hok⟩ := keyC_spec hk hkey
      simp only [CV.R] at hm
      subst hm
      cases hgo : keyGo P (ktOf (mkTD P) t) kk [] key with
      | false => exact trivial
      | true =>
      simp only [cond_true]
      obtain ⟨K, hK, _⟩ := krun hlo hmt hkk hgo
      have hck := hK.check w true
      refine Out.rd_wr hS (o := .old (.tup []) .nop) ⟨.tuple #[], ?_, R_unit⟩
      simp [Builtin.delete_, run_underlying hu, hck]
    · exact trivial
  · exact trivial
theorem mmapO_ok (hS : SR W ρ H w) (t : Nat) : (mmapO (mkTD P) H t).wr P W ρ H w (Instr.makeMap t none) := by
  unfold mmapO
  split
  · rename_i kk et hmt
    obtain ⟨hu, _⟩ := mapT_spec hmt
    refine ⟨.map (some w.heap.size), w.alloc (.map #[] 0), ρ.ext H.next (w.heap.size, 0), ?_, Rho.le_ext (hS.fresh _ (Nat.le_refl _)), hS.fresh1 (hS.push _) (by simp) (fun _ _ _ _ h => by cases h) ⟨#[], 0, alloc_new _ _, ⟨by simp [toM], ⟨[], List.Perm.refl _, rfl⟩, by simp [toM], by simp, by simp⟩, by simp, fun c l h => by cases h; exact ⟨rfl, by simp, by simp⟩⟩, ?_⟩
    · simp [Instr.makeMap]
    · simp only [CV.R]
      exact ⟨_, _, Rho.ext_same .., rfl⟩
  · exact trivial
end
end Go.Proofs.YtjhaikcokbmdbaaGreatDoor.Cx
