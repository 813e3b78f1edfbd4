/-
  Operations that only read: the model does just that (5): maps, lengths, interfaces, structs.
-/
import Derived.Test.YtgfkepebfaiepaaGreatDoorBxG
namespace Go.Proofs.YtgfkepebfaiepaaGreatDoor.Ax
open Go.RowKit
section
variable {ρ : Rho} {ι : Imm} {P : Program} {w : World} {T : TT} {H : AH}
def keyDesc : Option IntKind → TypeDesc
 | none => .string
 | some k => .int k
theorem MK.val_inj {a b : MK} (h : a.val = b.val) : a = b := by
 cases a <;> cases b <;> simp_all [MK.val]
theorem same_val {a b : MK} {kk : Option IntKind} (ha : a.kind = kk) (hb : b.kind = kk) : Instr.sameNow (keyDesc kk) a.val b.val = some (decide (b = a)) := by
 cases a with
 | s l =>
   cases b with
   | s l' =>
     simp only [MK.kind] at ha
     subst ha
     simp only [keyDesc, MK.val, Instr.sameNow]
     congr 1
     have e : ((⟨l.toArray⟩ : ByteArray) == ⟨l'.toArray⟩) = (l.toArray == l'.toArray) := rfl
     rw [e, Bool.eq_iff_iff, beq_iff_eq, decide_eq_true_eq]
     exact ⟨fun h => by have : l = l' := by simpa using h
                        rw [this], fun h => by injection h with h; rw [h]⟩
   | i k' n' => simp only [MK.kind] at ha hb; subst ha; cases hb
 | i k n =>
   cases b with
   | s l' => simp only [MK.kind] at ha hb; subst ha; cases hb
   | i k' n' =>
     simp only [MK.kind] at ha hb
     subst ha
     injection hb with hb
     subst hb
     simp only [keyDesc, MK.val, Instr.sameNow, if_true]
     congr 1
     rw [Bool.eq_iff_iff, beq_iff_eq, decide_eq_true_eq]
     exact ⟨fun h => by rw [h], fun h => by injection h with _ h; exact h.symm⟩
def findHit (hit : MapEntry → Bool) : List MapEntry → Nat → Option (Nat × Value)
 | [], _ => none
 | e :: es, i => if hit e then some (i, e.val) else findHit hit es (i + 1)
theorem findNow_hit (kind : TypeDesc) (kv : Value) (hit : MapEntry → Bool) : ∀ (es : List MapEntry) (i : Nat), (∀ e ∈ es, Instr.sameNow kind kv e.key = some (hit e)) → Instr.findNow kind kv es i = some (findHit hit es i)
 | [], _, _ => rfl
 | e :: es, i, h => by
   have h1 := h e (List.mem_cons_self ..)
   have ih := findNow_hit kind kv hit es (i + 1) (fun e he => h e (List.mem_cons_of_mem _ he))
   simp only [Instr.findNow, h1, findHit]
   cases hit e <;> simp [ih]
theorem findHit_some (hit : MapEntry → Bool) : ∀ (es : List MapEntry) (i j : Nat) (v : Value), findHit hit es i = some (j, v) → ∃ e, i ≤ j ∧ es[j - i]? = some e ∧ hit e = true ∧ v = e.val
 | [], _, _, _, h => by cases h
 | e :: es, i, j, v, h => by
   unfold findHit at h
   split at h
   ·rename_i he
    simp only [Option.some.injEq, Prod.mk.injEq] at h
    obtain ⟨rfl, rfl⟩ := h
    exact ⟨e, Nat.le_refl _, by simp, he, rfl⟩
   ·obtain ⟨e', h1, h2, h3⟩ := findHit_some hit es (i + 1) j v h
    refine ⟨e', by omega, ?_, h3⟩
    have : j - i = (j - (i + 1)) + 1 := by omega
    rw [this, List.getElem?_cons_succ]
    exact h2
theorem findHit_none (hit : MapEntry → Bool) : ∀ (es : List MapEntry) (i : Nat), findHit hit es i = none → ∀ e ∈ es, hit e = false
 | [], _, _, _, he => by cases he
 | e :: es, i, h, e', he => by
   unfold findHit at h
   split at h
   ·cases h
   ·rename_i hn
    rcases List.mem_cons.1 he with rfl | he
    ·simpa using hn
    ·exact findHit_none hit es (i + 1) h e' he
section
variable {X : Type} {R : X → Value → Prop}
theorem ZipR.mem {l : List MapEntry} {m : List (MK × X)} (h : ZipR R l m) : ∀ e ∈ l, ∃ p ∈ m, e.key = p.1.val ∧ R p.2 e.val := by
 induction l generalizing m with
 | nil => intro e he; cases he
 | cons x xs ih =>
   obtain ⟨p, ps, rfl, h1, h2, h3⟩ := h
   intro e he
   rcases List.mem_cons.1 he with rfl | he
   ·exact ⟨p, List.mem_cons_self .., h1, h2⟩
   ·obtain ⟨q, hq, r⟩ := ih h3 e he
    exact ⟨q, List.mem_cons_of_mem _ hq, r⟩
theorem ZipR.mem' {l : List MapEntry} {m : List (MK × X)} (h : ZipR R l m) : ∀ p ∈ m, ∃ e ∈ l, e.key = p.1.val ∧ R p.2 e.val := by
 induction l generalizing m with
 | nil => intro p hp; simp only [ZipR] at h; subst h; cases hp
 | cons x xs ih =>
   obtain ⟨p, ps, rfl, h1, h2, h3⟩ := h
   intro q hq
   rcases List.mem_cons.1 hq with rfl | hq
   ·exact ⟨x, List.mem_cons_self .., h1, h2⟩
   ·obtain ⟨e, he, r⟩ := ih h3 q hq
    exact ⟨e, List.mem_cons_of_mem _ he, r⟩
theorem ZipR.len {l : List MapEntry} {m : List (MK × X)} (h : ZipR R l m) : l.length = m.length := by
 induction l generalizing m with
 | nil => simp only [ZipR] at h; subst h; rfl
 | cons x xs ih => obtain ⟨p, ps, rfl, h1, h2, h3⟩ := h; simp [ih h3]
theorem mfind_some {m : List (MK × X)} {k : MK} {x : X} (h : mfind m k = some x) : (k, x) ∈ m := by
 unfold mfind at h
 obtain ⟨p, hp, rfl⟩ := Option.map_eq_some_iff.1 h
 have h1 := List.mem_of_find?_eq_some hp
 have h2 := List.find?_some hp
 simp only [decide_eq_true_eq] at h2
 rw [← h2]
 exact h1
theorem mfind_none {m : List (MK × X)} {k : MK} (h : mfind m k = none) : ∀ p ∈ m, p.1 ≠ k := by
 intro p hp e
 unfold mfind at h
 have h1 := Option.map_eq_none_iff.1 h
 have := List.find?_eq_none.1 h1 p hp
 simp [e] at this
theorem nodup_key {m : List (MK × X)} (h : (m.map (·.1)).Nodup) {p q : MK × X} (hp : p ∈ m) (hq : q ∈ m) (e : p.1 = q.1) : p = q := by
 induction m with
 | nil => cases hp
 | cons x xs ih =>
   simp only [List.map_cons, List.nodup_cons] at h
   rcases List.mem_cons.1 hp with hp1 | hp1 <;> rcases List.mem_cons.1 hq with hq1 | hq1
   ·rw [hp1, hq1]
   ·exact absurd (by rw [← hp1, e]; exact List.mem_map_of_mem hq1) h.1
   ·exact absurd (by rw [← hq1, ← e]; exact List.mem_map_of_mem hp1) h.1
   ·exact ih h.2 hp1 hq1
theorem MapR.find {kk : Option IntKind} {m : List (MK × X)} {es : Array MapEntry} {clock : Nat} (h : MapR R kk m es clock) {key : MK} (hk : key.kind = kk) :
 (mfind m key = none ∧ Instr.findNow (keyDesc kk) key.val es.toList 0 = some none ∧ ∀ e ∈ es.toList, e.key ≠ key.val) ∨
 ∃ x j e, mfind m key = some x ∧ Instr.findNow (keyDesc kk) key.val es.toList 0 = some (some (j, e.val)) ∧ es.toList[j]? = some e ∧ e.key = key.val ∧ R x e.val := by
 obtain ⟨l, hp, hz⟩ := h.zip
 have mem : ∀ e ∈ es.toList, ∃ p ∈ m, e.key = p.1.val ∧ R p.2 e.val := fun e he => hz.mem e (hp.mem_iff.2 he)
 have same : ∀ e ∈ es.toList, Instr.sameNow (keyDesc kk) key.val e.key = some ((Instr.sameNow (keyDesc kk) key.val e.key).getD false) := fun e he => by
  obtain ⟨p, hpm, hkey, _⟩ := mem e he
  rw [hkey, same_val hk (h.kind p hpm)]
  rfl
 have hitk : ∀ e ∈ es.toList, (Instr.sameNow (keyDesc kk) key.val e.key).getD false = true ↔ e.key = key.val := fun e he => by
  obtain ⟨p, hpm, hkey, _⟩ := mem e he
  rw [hkey, same_val hk (h.kind p hpm)]
  simp only [Option.getD_some, decide_eq_true_eq]
  exact ⟨fun e => by rw [e], fun e => MK.val_inj e⟩
 have hf := findNow_hit (keyDesc kk) key.val (fun e => (Instr.sameNow (keyDesc kk) key.val e.key).getD false) es.toList 0 same
 cases hh : findHit (fun e => (Instr.sameNow (keyDesc kk) key.val e.key).getD false) es.toList 0 with
 | none =>
   have hn := findHit_none _ _ _ hh
   have hne : ∀ e ∈ es.toList, e.key ≠ key.val := fun e he e' => by
    have := (hitk e he).2 e'
    rw [hn e he] at this
    cases this
   refine .inl ⟨?_, by rw [hf, hh], hne⟩
   cases hm : mfind m key with
   | none => rfl
   | some x =>
     obtain ⟨e, he, hke, _⟩ := hz.mem' _ (mfind_some hm)
     exact absurd hke (hne e (hp.mem_iff.1 he))
 | some r =>
   obtain ⟨j, v⟩ := r
   obtain ⟨e, _, h2, h3, rfl⟩ := findHit_some _ _ _ _ _ hh
   rw [Nat.sub_zero] at h2
   have he := List.mem_of_getElem? h2
   have hke := (hitk e he).1 h3
   obtain ⟨p, hpm, hkp, hr⟩ := mem e he
   have hpk : p.1 = key := MK.val_inj (hkp.symm.trans hke)
   refine .inr ⟨p.2, j, e, ?_, by rw [hf, hh], h2, hke, hr⟩
   cases hm : mfind m key with
   | none => exact absurd hpk (mfind_none hm p hpm)
   | some x =>
     have := nodup_key h.keys hpm (mfind_some hm) hpk
     rw [this]
end
theorem TK.key_spec {u : TypeDesc} {kk : Option IntKind} (h : (TK.of u).key = some kk) : u = keyDesc kk := by
 cases u <;> simp_all [TK.of, TK.key]
 all_goals subst h; rfl
theorem keyA_spec {x : AV} {v : Value} {key : MK} (hx : x.R ρ ι v) (h : keyA x = some key) : v = key.val := by
 unfold keyA at h
 split at h
 ·injection h with h; subst h; simpa [AV.R, IV.R, MK.val] using hx
 ·injection h with h; subst h; simpa [AV.R, IV.R, MK.val] using hx
 ·cases h
theorem run_checkKey (b : Bool) (n : Nat) {t : TypeId} {kk : Option IntKind} (ht : P.underlying t = some (keyDesc kk)) {key : MK} (hk : key.kind = kk) : (Instr.checkKey b (n + 1) t key.val).run P w = .ok () w := by
 subst hk
 cases key <;> simp [Instr.checkKey, run_underlying ht, MK.val, keyDesc, MK.kind]
theorem run_findKey {t : TypeId} {kk : Option IntKind} (ht : P.underlying t = some (keyDesc kk)) {key : MK} {es : List MapEntry} {r : Option (Nat × Value)} (h : Instr.findNow (keyDesc kk) key.val es 0 = some r) : (Instr.findKey t key.val es).run P w = .ok r w := by
 simp [Instr.findKey, run_underlying ht, h]
theorem run_getObj {b : Nat} {o : Obj} (h : w.heap[b]? = some o) (hn : ∀ c e f, o ≠ .cells c e f) : (getObj b).run P w = .ok o w := by
 cases o with
 | cells c e f => exact absurd rfl (hn c e f)
 | _ => simp [getObj, Sem.run, h]
theorem look_run {X : Type} {R : X → Value → Prop} {kk : Option IntKind} {m : List (MK × X)} {es : Array MapEntry} {clock b t kt et : Nat} {key : MK} {z : Value} (hmp : P.underlying t = some (.map kt et)) (h1 : P.underlying kt = some (keyDesc kk)) (hkind : key.kind = kk) (hzr : (zeroValue et).run P w = .ok z w) (g6 : w.heap[b]? = some (.map es clock)) (g7 : MapR R kk m es clock) (ok : Bool) :
 (mfind m key = none ∧ (Instr.lookup t (.map (some b)) key.val ok).run P w = .ok (bif ok then .tuple #[z, .bool false] else z) w) ∨ ∃ x u, mfind m key = some x ∧ R x u ∧ (Instr.lookup t (.map (some b)) key.val ok).run P w = .ok (bif ok then .tuple #[u, .bool true] else u) w := by
 have hobj := run_getObj (P := P) g6 (fun _ _ _ => by simp)
 have hck := run_checkKey (P := P) (w := w) es.isEmpty 9999 h1 hkind
 rcases g7.find hkind with ⟨f1, f2, _⟩ | ⟨x, j, e, f1, f2, f3, f4, f5⟩
 ·have hfk := run_findKey (P := P) (w := w) h1 f2
  exact .inl ⟨f1, by cases ok <;> simp [Instr.lookup, run_underlying hmp, hobj, hck, hfk, hzr]⟩
 ·have hfk := run_findKey (P := P) (w := w) h1 f2
  exact .inr ⟨x, e.val, f1, f5, by cases ok <;> simp [Instr.lookup, run_underlying hmp, hobj, hck, hfk]⟩
theorem lookA_ok (hT : TOk P T) (hS : SR ρ ι H w) (t : Nat) (x k : AV) (ok : Bool) {v u : Value} (hx : x.R ρ ι v) (hk : k.R ρ ι u) : (lookA T H t x k ok).ok ρ ι P (Instr.lookup t v u ok) w := by
 unfold lookA
 split
 ·rename_i d hd
  split
  ·rename_i kt et hkd
   have hmp := td_mp hT hd hkd
   split
   ·rename_i key kk z hkey hkk hz
    split
    ·rename_i hkind
     have hu := keyA_spec hk hkey
     subst hu
     obtain ⟨dk, hdk, hkk⟩ := Option.bind_eq_some_iff.1 hkk
     obtain ⟨uk, ik, h1, _, rfl⟩ := td hT hdk
     have hku := TK.key_spec hkk
     subst hku
     obtain ⟨de, hde, hze⟩ := Option.bind_eq_some_iff.1 hz
     have hzr := run_zero' hT hde hze
     split
     ·rename_i h
      split
      ·rename_i kk' m hg
       split
       ·rename_i hkk'
        subst hkk'
        simp only [AV.R] at hx
        obtain ⟨hv, b, g1, g2, rfl⟩ := hx
        obtain ⟨hv', g3, b', es, clock, g4, g5, g6, g7⟩ := hS.hv hg
        rw [g1] at g3
        injection g3 with g3
        subst g3
        rw [g2] at g4
        injection g4 with g4
        subst g4
        rcases look_run hmp h1 hkind (hzr w) g6 g7 ok with ⟨f1, f2⟩ | ⟨x, u, f1, f2, f3⟩
        ·cases ok with
         | true => exact ⟨_, f2, .inr ⟨by rw [f1]; rfl, by simp [AV.R, AV.Rs, IV.R]⟩⟩
         | false => exact ⟨_, f2, .inr ⟨by rw [f1]; rfl, by simp [AV.R, IV.R]⟩⟩
        ·cases ok with
         | true => exact ⟨_, f3, .inl ⟨.iv x, by rw [f1]; rfl, by simp [AV.R, AV.Rs, IV.R, f2]⟩⟩
         | false => exact ⟨_, f3, .inl ⟨.iv x, by rw [f1]; rfl, by simpa [AV.R] using f2⟩⟩
       ·exact trivial
      ·rename_i kk' m lf it hg
       split
       ·rename_i hkk'
        subst hkk'
        simp only [AV.R] at hx
        obtain ⟨hv, b, g1, g2, rfl⟩ := hx
        obtain ⟨hv', g3, b', _, _, es, clock, _, _, _, g4, _, _, _, _, g6, _, g7, _⟩ := hS.hv hg
        rw [g1] at g3
        injection g3 with g3
        subst g3
        rw [g2] at g4
        injection g4 with g4
        subst g4
        rcases look_run hmp h1 hkind (hzr w) g6 g7 ok with ⟨f1, f2⟩ | ⟨x, u, f1, f2, f3⟩
        ·cases ok with
         | true => exact ⟨_, f2, .inr ⟨by rw [f1]; rfl, by simp [AV.R, AV.Rs, IV.R]⟩⟩
         | false => exact ⟨_, f2, .inr ⟨by rw [f1]; rfl, by simp [AV.R, IV.R]⟩⟩
        ·cases ok with
         | true => exact ⟨_, f3, .inl ⟨.iv x, by rw [f1]; rfl, by simp [AV.R, AV.Rs, IV.R, f2]⟩⟩
         | false => exact ⟨_, f3, .inl ⟨.iv x, by rw [f1]; rfl, by simpa [AV.R] using f2⟩⟩
       ·exact trivial
      ·rename_i kk' m es clock hg
       split
       ·rename_i hkk'
        subst hkk'
        simp only [AV.R] at hx
        obtain ⟨hv, b, g1, g2, rfl⟩ := hx
        obtain ⟨hv', g3, b', g4, g5, g6, g7, _⟩ := hS.hv hg
        rw [g1] at g3
        injection g3 with g3
        subst g3
        rw [g2] at g4
        injection g4 with g4
        subst g4
        rcases look_run hmp h1 hkind (hzr w) g6 g7 ok with ⟨f1, f2⟩ | ⟨x, u, f1, f2, f3⟩
        ·cases ok with
         | true => exact ⟨_, f2, .inr ⟨by rw [f1]; rfl, by simp [AV.R, AV.Rs, IV.R]⟩⟩
         | false => exact ⟨_, f2, .inr ⟨by rw [f1]; rfl, by simp [AV.R, IV.R]⟩⟩
        ·cases ok with
         | true => exact ⟨_, f3, .inl ⟨.iv x, by rw [f1]; rfl, by simp [AV.R, AV.Rs, IV.R, f2]⟩⟩
         | false => exact ⟨_, f3, .inl ⟨.iv x, by rw [f1]; rfl, by simpa [AV.R] using f2⟩⟩
       ·exact trivial
      ·rename_i kk' m hg
       split
       ·rename_i hkk'
        subst hkk'
        simp only [AV.R] at hx
        obtain ⟨hv, b, g1, g2, rfl⟩ := hx
        obtain ⟨hv', g3, b', es, clock, g4, g5, g6, g7⟩ := hS.hv hg
        rw [g1] at g3
        injection g3 with g3
        subst g3
        rw [g2] at g4
        injection g4 with g4
        subst g4
        rcases look_run hmp h1 hkind (hzr w) g6 g7 ok with ⟨f1, f2⟩ | ⟨x, u, f1, f2, f3⟩
        ·cases ok with
         | true => exact ⟨_, f2, .inr ⟨f1, by simp [AV.R, AV.Rs, IV.R]⟩⟩
         | false => exact ⟨_, f2, .inr ⟨f1, by simp [AV.R, IV.R]⟩⟩
        ·cases ok with
         | true => exact ⟨_, f3, .inl ⟨x, f1, by simp [AV.R, AV.Rs, IV.R, f2]⟩⟩
         | false => exact ⟨_, f3, .inl ⟨x, f1, f2⟩⟩
       ·exact trivial
      ·exact trivial
     ·simp only [AV.R, IV.R] at hx
      subst hx
      have hck := run_checkKey (P := P) (w := w) true 9999 h1 hkind
      have hfk := run_findKey (P := P) (w := w) (key := key) (es := []) h1 rfl
      cases ok with
      | true => exact fun _ => ⟨.tuple #[z, .bool false], by simp [Instr.lookup, run_underlying hmp, hck, hfk, hzr], by simp [AV.R, AV.Rs, IV.R]⟩
      | false => exact fun _ => ⟨z, by simp [Instr.lookup, run_underlying hmp, hck, hfk, hzr], by simp [AV.R, IV.R]⟩
     ·exact trivial
    ·exact trivial
   ·exact trivial
  ·exact trivial
 ·exact trivial
theorem lenA_ok (hT : TOk P T) (hS : SR ρ ι H w) (t : Nat) (x : AV) {v : Value} (hx : x.R ρ ι v) (ts : List TypeId) (rest : List Value) (ty : TypeId) : (lenA T H t x).ok ρ ι P (Builtin.len_ (t :: ts).toArray ty (v :: rest).toArray) w := by
 unfold lenA
 split
 ·rename_i d hd
  split
  ·rename_i l hk
   simp only [AV.R, IV.R] at hx
   subst hx
   have hsz : (⟨l.toArray⟩ : ByteArray).size = l.length := by simp [ByteArray.size]
   exact fun _ => ⟨.int .i64 (l.length : Int), by simp [Builtin.len_, run_underlying (td_str hT hd hk), goInt, hsz], R_v _⟩
  ·rename_i e l hk
   simp only [AV.R, IV.R] at hx
   obtain ⟨A, c, rfl, _⟩ := hx
   exact fun _ => ⟨_, by simp [Builtin.len_, run_underlying (td_sl hT hd hk), goInt], R_v _⟩
  ·rename_i e sz n f hk
   simp only [AV.R, IV.R] at hx
   obtain ⟨A, c, rfl, _⟩ := hx
   exact fun _ => ⟨_, by simp [Builtin.len_, run_underlying (td_sl hT hd hk), goInt], R_v _⟩
  ·rename_i e sz n f hk
   simp only [AV.R] at hx
   obtain ⟨A, c, rfl, _⟩ := hx
   exact fun _ => ⟨_, by simp [Builtin.len_, run_underlying (td_sl hT hd hk), goInt], R_v _⟩
  ·rename_i e h sz off n hk
   simp only [AV.R] at hx
   obtain ⟨A, c, rfl, _⟩ := hx
   exact fun _ => ⟨_, by simp [Builtin.len_, run_underlying (td_sl hT hd hk), goInt], R_v _⟩
  ·rename_i e A n c hk
   simp only [AV.R, IV.R] at hx
   subst hx
   exact fun _ => ⟨_, by simp [Builtin.len_, run_underlying (td_sl hT hd hk), goInt], R_v _⟩
  ·rename_i k e h hk
   split
   ·rename_i kk m hg
    simp only [AV.R] at hx
    obtain ⟨hv, b, g1, g2, rfl⟩ := hx
    obtain ⟨hv', g3, b', es, clock, g4, g5, g6, g7⟩ := hS.hv hg
    rw [g1] at g3
    injection g3 with g3
    subst g3
    rw [g2] at g4
    injection g4 with g4
    subst g4
    have hobj := run_getObj (P := P) g6 (fun _ _ _ => by simp)
    obtain ⟨l, hp, hz⟩ := g7.zip
    have hl : es.size = m.length := by
     have := hp.length_eq
     rw [hz.len] at this
     simpa using this.symm
    exact fun _ => ⟨.int .i64 (m.length : Int), by simp [Builtin.len_, run_underlying (td_mp hT hd hk), hobj, goInt, hl], R_v _⟩
   ·rename_i kk m lf it la hg
    simp only [AV.R] at hx
    obtain ⟨hv, b, g1, g2, rfl⟩ := hx
    obtain ⟨hv', g3, b', _, _, es, clock, _, _, _, g4, _, _, _, _, g6, _, g7, _⟩ := hS.hv hg
    rw [g1] at g3
    injection g3 with g3
    subst g3
    rw [g2] at g4
    injection g4 with g4
    subst g4
    have hobj := run_getObj (P := P) g6 (fun _ _ _ => by simp)
    obtain ⟨l, hp, hz⟩ := g7.zip
    have hl : es.size = m.length := by
     have := hp.length_eq
     rw [hz.len] at this
     simpa using this.symm
    exact fun _ => ⟨.int .i64 (m.length : Int), by simp [Builtin.len_, run_underlying (td_mp hT hd hk), hobj, goInt, hl], R_v _⟩
   ·rename_i kk m hg
    simp only [AV.R] at hx
    obtain ⟨hv, b, g1, g2, rfl⟩ := hx
    obtain ⟨hv', g3, b', es, clock, g4, g5, g6, g7⟩ := hS.hv hg
    rw [g1] at g3
    injection g3 with g3
    subst g3
    rw [g2] at g4
    injection g4 with g4
    subst g4
    have hobj := run_getObj (P := P) g6 (fun _ _ _ => by simp)
    obtain ⟨l, hp, hz⟩ := g7.zip
    have hl : es.size = m.length := by
     have := hp.length_eq
     rw [hz.len] at this
     simpa using this.symm
    exact fun _ => ⟨.int .i64 (m.length : Int), by simp [Builtin.len_, run_underlying (td_mp hT hd hk), hobj, goInt, hl], R_v _⟩
   ·exact trivial
  ·rename_i k e hk
   simp only [AV.R, IV.R] at hx
   subst hx
   exact fun _ => ⟨_, by simp [Builtin.len_, run_underlying (td_mp hT hd hk), goInt], R_v _⟩
  ·exact trivial
 ·exact trivial
theorem minA_ok (x y : AV) {u v : Value} (hx : x.R ρ ι u) (hy : y.R ρ ι v) (ts : Array TypeId) (ty : TypeId) : (minA x y).ok ρ ι P (Builtin.min_ ts ty #[u, v]) w := by
 unfold minA
 split
 ·rename_i k a k' b
  simp only [AV.R, IV.R] at hx hy
  subst hx hy
  split
  ·rename_i hk
   subst hk
   refine fun _ => ⟨.int k (min a b), ?_, R_v _⟩
   have : min a b = if b < a then b else a := by omega
   simp [Builtin.min_, Builtin.min2, this]
  ·exact trivial
 ·exact trivial
theorem maxA_ok (x y : AV) {u v : Value} (hx : x.R ρ ι u) (hy : y.R ρ ι v) (ts : Array TypeId) (ty : TypeId) : (maxA x y).ok ρ ι P (Builtin.max_ ts ty #[u, v]) w := by
 unfold maxA
 split
 ·rename_i k a k' b
  simp only [AV.R, IV.R] at hx hy
  subst hx hy
  split
  ·rename_i hk
   subst hk
   refine fun _ => ⟨.int k (max a b), ?_, R_v _⟩
   have h1 : max a b = if b > a then b else a := by omega
   simp [Builtin.max_, Builtin.max2, h1]
  ·exact trivial
 ·exact trivial
end
end Go.Proofs.YtgfkepebfaiepaaGreatDoor.Ax
