/-
  Operations that write memory: maps, append.
-/
import Derived.Test.YtgfkepebfaiepaaGreatDoorBxM
namespace Go.Proofs.YtgfkepebfaiepaaGreatDoor.Ax
open Go.RowKit
def mput {X : Type} (m : List (MK × X)) (k : MK) (x : X) : List (MK × X) :=
 match m with
 | [] => [(k, x)]
 | p :: ps => if p.1 = k then (k, x) :: ps else p :: mput ps k x
def mdel {X : Type} (m : List (MK × X)) (k : MK) : List (MK × X) := m.filter fun p => decide (p.1 ≠ k)
def mapKey (T : TT) (t : TypeId) (k : AV) : Option MK :=
 match T.get t with
 | some d => match d.k with
   | .mp kt _ => match keyA k, (T.get kt).bind (·.k.key) with
     | some key, some kk => if key.kind = kk then some key else none
     | _, _ => none
   | _ => none
 | none => none
def updW (T : TT) (H : AH) (t : TypeId) (m k x : AV) : WOut :=
 match mapKey T t k, m with
 | some key, .mp h => match H.get h with
   | some (.map kk es) => match x.toIV2 with
     | some y => if key.kind = kk then some ([], .junk, H.set h (.map kk (mput es key y))) else none
     | none => none
   | some (.maph kk es) => if key.kind = kk then some ([], .junk, H.set h (.maph kk (mput es key x))) else none
   | _ => none
 | _, _ => none
def delW (T : TT) (H : AH) (t : TypeId) (m k : AV) : WOut :=
 match mapKey T t k, m with
 | some key, .mp h => match H.get h with
   | some (.map kk es) => if key.kind = kk then some ([], .junk, H.set h (.map kk (mdel es key))) else none
   | some (.maph kk es) => if key.kind = kk then some ([], .junk, H.set h (.maph kk (mdel es key))) else none
   | some (.mapit kk es left i _) => if key.kind = kk then some ([], .junk, H.set h (.mapit kk (mdel es key) left i none)) else none
   | _ => none
 | _, _ => none
section
variable {ρ : Rho} {ι : Imm} {P : Program} {w : World} {T : TT} {H : AH}
theorem mapKey_spec (hT : TOk P T) {t : TypeId} {k : AV} {key : MK} (h : mapKey T t k = some key) : ∃ kt et, P.underlying t = some (.map kt et) ∧ P.underlying kt = some (keyDesc key.kind) ∧ keyA k = some key := by
 unfold mapKey at h
 split at h
 ·rename_i d hd
  split at h
  ·rename_i kt et hk
   split at h
   ·rename_i key' kk h1 h2
    split at h
    ·rename_i h3
     injection h with h
     subst h
     obtain ⟨dk, hdk, hkk⟩ := Option.bind_eq_some_iff.1 h2
     obtain ⟨uk, ik, g1, _, rfl⟩ := td hT hdk
     have hku := TK.key_spec hkk
     subst hku
     exact ⟨kt, et, td_mp hT hd hk, by rw [h3]; exact g1, h1⟩
    ·cases h
   ·cases h
  ·cases h
 ·cases h
section
variable {X : Type} {R : X → Value → Prop}
theorem ZipR.split {e : MapEntry} : ∀ {C D : List MapEntry} {m : List (MK × X)}, ZipR R (C ++ e :: D) m → ∃ m1 p m2, m = m1 ++ p :: m2 ∧ ZipR R C m1 ∧ e.key = p.1.val ∧ R p.2 e.val ∧ ZipR R D m2
 | [], D, m, h => by
   obtain ⟨p, ps, rfl, h1, h2, h3⟩ := h
   exact ⟨[], p, ps, rfl, rfl, h1, h2, h3⟩
 | c :: C, D, m, h => by
   obtain ⟨p, ps, rfl, h1, h2, h3⟩ := h
   obtain ⟨m1, q, m2, rfl, g1, g2, g3, g4⟩ := ZipR.split h3
   exact ⟨p :: m1, q, m2, rfl, ⟨p, m1, rfl, h1, h2, g1⟩, g2, g3, g4⟩
theorem ZipR.join : ∀ {C D : List MapEntry} {m1 m2 : List (MK × X)}, ZipR R C m1 → ZipR R D m2 → ZipR R (C ++ D) (m1 ++ m2)
 | [], D, m1, m2, h, h' => by simp only [ZipR] at h; subst h; exact h'
 | c :: C, D, m1, m2, h, h' => by
   obtain ⟨p, ps, rfl, h1, h2, h3⟩ := h
   exact ⟨p, ps ++ m2, rfl, h1, h2, ZipR.join h3 h'⟩
theorem mput_split {m1 m2 : List (MK × X)} {k : MK} {x y : X} (h : ∀ p ∈ m1, p.1 ≠ k) : mput (m1 ++ (k, y) :: m2) k x = m1 ++ (k, x) :: m2 := by
 induction m1 with
 | nil => simp [mput]
 | cons p ps ih =>
   have h1 := h p (List.mem_cons_self ..)
   simp only [List.cons_append, mput, if_neg h1]
   rw [ih fun q hq => h q (List.mem_cons_of_mem _ hq)]
theorem mput_new {m : List (MK × X)} {k : MK} {x : X} (h : ∀ p ∈ m, p.1 ≠ k) : mput m k x = m ++ [(k, x)] := by
 induction m with
 | nil => rfl
 | cons p ps ih =>
   have h1 := h p (List.mem_cons_self ..)
   simp only [mput, if_neg h1, List.cons_append]
   rw [ih fun q hq => h q (List.mem_cons_of_mem _ hq)]
theorem split_at {α : Type} {l : List α} {j : Nat} {e : α} (h : l[j]? = some e) : ∃ A B, l = A ++ e :: B ∧ A.length = j := by
 have hj : j < l.length := by
  rcases Nat.lt_or_ge j l.length with h' | h'
  ·exact h'
  ·rw [List.getElem?_eq_none h'] at h; cases h
 refine ⟨l.take j, l.drop (j + 1), ?_, by rw [List.length_take]; omega⟩
 rw [List.getElem?_eq_getElem hj] at h
 injection h with h
 rw [← h, ← List.drop_eq_getElem_cons hj, List.take_append_drop]
theorem modify_at {α : Type} (f : α → α) : ∀ (A : List α) (e : α) (B : List α), (A ++ e :: B).modify A.length f = A ++ f e :: B
 | [], e, B => by simp
 | a :: A, e, B => by
   simp only [List.cons_append, List.length_cons, List.modify_succ_cons]
   rw [modify_at f A e B]
theorem MapR.around {kk : Option IntKind} {m : List (MK × X)} {es : Array MapEntry} {clock : Nat} (h : MapR R kk m es clock) {key : MK} {j : Nat} {e : MapEntry} (hj : es.toList[j]? = some e) (he : e.key = key.val) :
 ∃ A B C D m1 m2 y, es.toList = A ++ e :: B ∧ A.length = j ∧ (C ++ D).Perm (A ++ B) ∧ ZipR R C m1 ∧ ZipR R D m2 ∧ m = m1 ++ (key, y) :: m2 ∧ ∀ p ∈ m1 ++ m2, p.1 ≠ key := by
 obtain ⟨l, hp, hz⟩ := h.zip
 obtain ⟨A, B, hAB, hA⟩ := split_at hj
 have hel : e ∈ l := hp.mem_iff.2 (by rw [hAB]; simp)
 obtain ⟨C, D, rfl⟩ := List.append_of_mem hel
 obtain ⟨m1, p, m2, rfl, g1, g2, g3, g4⟩ := hz.split
 have hpk : p.1 = key := MK.val_inj (g2.symm.trans he)
 refine ⟨A, B, C, D, m1, m2, p.2, hAB, hA, ?_, g1, g4, by rw [← hpk], fun q hq hqk => ?_⟩
 ·rw [hAB] at hp
  have h1 : (e :: (C ++ D)).Perm (e :: (A ++ B)) := (List.perm_middle.symm.trans hp).trans List.perm_middle
  exact h1.cons_inv
 ·have hn := h.keys
  simp only [List.map_append, List.map_cons] at hn
  rw [List.nodup_append] at hn
  obtain ⟨n1, n2, n3⟩ := hn
  rw [List.nodup_cons] at n2
  rcases List.mem_append.1 hq with hq | hq
  ·exact n3 q.1 (List.mem_map_of_mem hq) p.1 (by simp) (by rw [hqk, hpk])
  ·exact n2.1 (by rw [hpk, ← hqk]; exact List.mem_map_of_mem hq)
theorem run_setObj {b : Nat} {o o' : Obj} (h : w.heap[b]? = some o) (hn : ∀ c e f, o ≠ .cells c e f) : (setObj b o').run P w = .ok () (putObj w b o') := by
 cases o with
 | cells c e f => exact absurd rfl (hn c e f)
 | _ => simp [setObj, Sem.run, h, putObj]
theorem sameBits_key (a : MK) : Instr.sameBits 10000 a.val a.val = true := by
 cases a with
 | s l => show ((⟨l.toArray⟩ : ByteArray) == ⟨l.toArray⟩) = true
          have e : ((⟨l.toArray⟩ : ByteArray) == ⟨l.toArray⟩) = (l.toArray == l.toArray) := rfl
          rw [e]; simp
 | i k n => simp [MK.val, Instr.sameBits]
theorem MapR.update {kk : Option IntKind} {m : List (MK × X)} {es : Array MapEntry} {clock : Nat} (h : MapR R kk m es clock) {key : MK} {j : Nat} {e : MapEntry} (hj : es.toList[j]? = some e) (he : e.key = key.val) {x : X} {v : Value} (hx : R x v) :
 MapR R kk (mput m key x) (es.modify j fun e => { e with key := key.val, val := v }) clock := by
 obtain ⟨A, B, C, D, m1, m2, y, hAB, hA, hp, z1, z2, hm, hne⟩ := h.around hj he
 have hkind := h.kind
 have hkeys := h.keys
 have hborn := h.born
 have hclock := h.clock
 subst hm
 have hl : (es.modify j fun e => { e with key := key.val, val := v }).toList = A ++ { e with key := key.val, val := v } :: B := by
  rw [Array.toList_modify, hAB]
  subst hA
  exact modify_at _ A e B
 rw [mput_split fun p hp => hne p (List.mem_append_left _ hp)]
 refine ⟨fun p hp => ?_, ⟨C ++ { e with key := key.val, val := v } :: D, ?_, z1.join ⟨(key, x), m2, rfl, rfl, hx, z2⟩⟩, ?_, ?_, fun e' he' => ?_⟩
 ·rcases List.mem_append.1 hp with hp | hp
  ·exact hkind p (List.mem_append_left _ hp)
  ·rcases List.mem_cons.1 hp with rfl | hp
   ·exact hkind (key, y) (by simp)
   ·exact hkind p (List.mem_append_right _ (List.mem_cons_of_mem _ hp))
 ·rw [hl]
  exact (List.perm_middle.trans (hp.cons _)).trans List.perm_middle.symm
 ·simpa using hkeys
 ·rw [hl]
  rw [hAB] at hborn
  simpa using hborn
 ·rw [hl] at he'
  rcases List.mem_append.1 he' with he' | he'
  ·exact hclock e' (by rw [hAB]; exact List.mem_append_left _ he')
  ·rcases List.mem_cons.1 he' with rfl | he'
   ·exact hclock e (by rw [hAB]; simp)
   ·exact hclock e' (by rw [hAB]; exact List.mem_append_right _ (List.mem_cons_of_mem _ he'))
theorem MapR.push {kk : Option IntKind} {m : List (MK × X)} {es : Array MapEntry} {clock : Nat} (h : MapR R kk m es clock) {key : MK} (hk : key.kind = kk) (hne : ∀ e ∈ es.toList, e.key ≠ key.val) {x : X} {v : Value} (hx : R x v) :
 MapR R kk (mput m key x) (es.push { key := key.val, val := v, born := clock }) (clock + 1) := by
 obtain ⟨l, hp, hz⟩ := h.zip
 have hnm : ∀ p ∈ m, p.1 ≠ key := fun p hpm e => by
  obtain ⟨e', he', hke, _⟩ := hz.mem' p hpm
  exact hne e' (hp.mem_iff.1 he') (by rw [hke, e])
 rw [mput_new hnm]
 refine ⟨fun p hp => ?_, ⟨l ++ [{ key := key.val, val := v, born := clock }], ?_, hz.join ⟨(key, x), [], rfl, rfl, hx, rfl⟩⟩, ?_, ?_, fun e he => ?_⟩
 ·rcases List.mem_append.1 hp with hp | hp
  ·exact h.kind p hp
  ·simp at hp; subst hp; exact hk
 ·rw [Array.toList_push]; exact hp.append_right _
 ·simp only [List.map_append, List.map_cons, List.map_nil]
  rw [List.nodup_append]
  refine ⟨h.keys, by simp, fun a ha b hb => ?_⟩
  simp at hb
  subst hb
  obtain ⟨p, hpm, rfl⟩ := List.mem_map.1 ha
  exact hnm p hpm
 ·rw [Array.toList_push]
  simp only [List.map_append, List.map_cons, List.map_nil]
  rw [List.nodup_append]
  refine ⟨h.born, by simp, fun a ha b hb => ?_⟩
  simp at hb
  subst hb
  obtain ⟨e, he, rfl⟩ := List.mem_map.1 ha
  have := h.clock e he
  omega
 ·rw [Array.toList_push] at he
  rcases List.mem_append.1 he with he | he
  ·have := h.clock e he; omega
  ·simp at he; subst he; exact Nat.lt_succ_self _
theorem MapR.erase {kk : Option IntKind} {m : List (MK × X)} {es : Array MapEntry} {clock : Nat} (h : MapR R kk m es clock) {key : MK} {j : Nat} {e : MapEntry} (hj : es.toList[j]? = some e) (he : e.key = key.val) :
 MapR R kk (mdel m key) (es.eraseIdxIfInBounds j) clock := by
 obtain ⟨A, B, C, D, m1, m2, y, hAB, hA, hp, z1, z2, hm, hne⟩ := h.around hj he
 have hkind := h.kind
 have hkeys := h.keys
 have hborn := h.born
 have hclock := h.clock
 subst hm
 have hl : (es.eraseIdxIfInBounds j).toList = A ++ B := by
  rw [Array.toList_eraseIdxIfInBounds, hAB]
  subst hA
  simp [List.eraseIdx_append_of_length_le]
 have hd : mdel (m1 ++ (key, y) :: m2) key = m1 ++ m2 := by
  unfold mdel
  rw [List.filter_append, List.filter_cons]
  simp only [ne_eq, not_true_eq_false, decide_false, Bool.false_eq_true, if_false]
  rw [← List.filter_append, List.filter_eq_self]
  intro p hp
  simpa using hne p hp
 rw [hd]
 refine ⟨fun p hp => hkind p ?_, ⟨C ++ D, by rw [hl]; exact hp, z1.join z2⟩, ?_, ?_, fun e' he' => hclock e' ?_⟩
 ·rcases List.mem_append.1 hp with hp | hp
  ·exact List.mem_append_left _ hp
  ·exact List.mem_append_right _ (List.mem_cons_of_mem _ hp)
 ·refine List.Sublist.nodup ?_ hkeys
  simp only [List.map_append, List.map_cons]
  exact List.Sublist.append (List.Sublist.refl _) (List.sublist_cons_self _ _)
 ·rw [hl]
  rw [hAB] at hborn
  refine List.Sublist.nodup ?_ hborn
  simp only [List.map_append, List.map_cons]
  exact List.Sublist.append (List.Sublist.refl _) (List.sublist_cons_self _ _)
 ·rw [hl] at he'
  rw [hAB]
  rcases List.mem_append.1 he' with he' | he'
  ·exact List.mem_append_left _ he'
  ·exact List.mem_append_right _ (List.mem_cons_of_mem _ he')
end
section
variable {X : Type} {R : X → Value → Prop} {kk : Option IntKind} {m0 : List (MK × X)} {es : Array MapEntry} {clock b t kt et : Nat} {key : MK}
theorem upd_run {x : X} {vx : Value} (hu : P.underlying t = some (.map kt et)) (huk : P.underlying kt = some (keyDesc kk)) (hkk : key.kind = kk) (hx : R x vx) (g6 : w.heap[b]? = some (.map es clock)) (g7 : MapR R kk m0 es clock) :
 ∃ es' clock', (Instr.mapUpdate t (.map (some b)) key.val vx).run P w = .ok () (putObj w b (.map es' clock')) ∧ MapR R kk (mput m0 key x) es' clock' := by
 have hobj := run_getObj (P := P) g6 (fun _ _ _ => by simp)
 have hck := run_checkKey (P := P) (w := w) false 9999 huk hkk
 rcases g7.find hkk with ⟨f1, f2, f3⟩ | ⟨z, j, e, f1, f2, f3, f4, f5⟩
 ·have hfk := run_findKey (P := P) (w := w) huk f2
  have hset := run_setObj (P := P) (o' := .map (es.push { key := key.val, val := vx, born := clock }) (clock + 1)) g6 (fun _ _ _ => by simp)
  exact ⟨_, _, by simp [Instr.mapUpdate, run_underlying hu, hobj, hck, hfk, hset], g7.push hkk f3 hx⟩
 ·have hfk := run_findKey (P := P) (w := w) huk f2
  have hset := run_setObj (P := P) (o' := .map (es.modify j fun e => { e with key := key.val, val := vx }) clock) g6 (fun _ _ _ => by simp)
  have hej : es[j]? = some e := by simpa using f3
  have hstay : (Instr.keyThatStays (((es[j]?).map (·.key)).getD key.val) key.val).run P w = .ok key.val w := by
   simp [Instr.keyThatStays, hej, f4, sameBits_key]
  refine ⟨_, _, ?_, g7.update f3 f4 hx⟩
  simp only [Instr.mapUpdate, Sem.run_bind, run_underlying hu, Result.andThen_ok, hobj, hck, hfk, hstay, hset]
theorem del_run {ts : List TypeId} {ty : TypeId} (hu : P.underlying t = some (.map kt et)) (huk : P.underlying kt = some (keyDesc kk)) (hkk : key.kind = kk) (g6 : w.heap[b]? = some (.map es clock)) (g7 : MapR R kk m0 es clock) :
 ∃ es', (Builtin.delete_ (t :: ts).toArray ty #[.map (some b), key.val]).run P w = .ok (.tuple #[]) (putObj w b (.map es' clock)) ∧ MapR R kk (mdel m0 key) es' clock ∧ ∀ e ∈ es'.toList, e ∈ es.toList := by
 have hobj := run_getObj (P := P) g6 (fun _ _ _ => by simp)
 have hck := run_checkKey (P := P) (w := w) es.isEmpty 9999 huk hkk
 rcases g7.find hkk with ⟨f1, f2, f3⟩ | ⟨z, j, e, f1, f2, f3, f4, f5⟩
 ·have hfk := run_findKey (P := P) (w := w) huk f2
  have hset := run_setObj (P := P) (o' := .map es clock) g6 (fun _ _ _ => by simp)
  have hd : mdel m0 key = m0 := by
   unfold mdel
   rw [List.filter_eq_self]
   intro p hp
   simpa using mfind_none f1 p hp
  exact ⟨es, by simp [Builtin.delete_, run_underlying hu, hobj, hck, hfk, hset], by rw [hd]; exact g7, fun _ h => h⟩
 ·have hfk := run_findKey (P := P) (w := w) huk f2
  have hset := run_setObj (P := P) (o' := .map (es.eraseIdxIfInBounds j) clock) g6 (fun _ _ _ => by simp)
  exact ⟨_, by simp [Builtin.delete_, run_underlying hu, hobj, hck, hfk, hset], g7.erase f3 f4, fun e he => by rw [Array.toList_eraseIdxIfInBounds] at he; exact List.mem_of_mem_eraseIdx he⟩
end
theorem updW_ok (hT : TOk P T) (hS : SR ρ ι H w) (t : TypeId) (m k x : AV) {vm vk vx : Value} (hm : m.R ρ ι vm) (hk : k.R ρ ι vk) (hx : x.R ρ ι vx) {cs : List Cnd} {r : AV} {H' : AH} (h : updW T H t m k x = some (cs, r, H')) :
 ∃ w', (Instr.mapUpdate t vm vk vx).run P w = .ok () w' ∧ r = .junk ∧ SR ρ ι H' w' ∧ Went ρ ι H w ρ ι H' w' := by
 unfold updW at h
 split at h
 ·rename_i key h0 hkey
  obtain ⟨kt, et, hu, huk, hka⟩ := mapKey_spec hT hkey
  have hvk := keyA_spec hk hka
  subst hvk
  simp only [AV.R] at hm
  obtain ⟨hv, b, g1, g2, rfl⟩ := hm
  split at h
  ·rename_i kk es0 hg
   split at h
   ·rename_i y hy
    split at h
    ·rename_i hkk
     simp only [Option.some.injEq, Prod.mk.injEq] at h
     obtain ⟨rfl, rfl, rfl⟩ := h
     have hyx : IV.R ι y vx := toIV2_spec hy hx
     obtain ⟨hv', g3, b', es, clock, g4, g5, g6, g7⟩ := hS.hv hg
     rw [g1] at g3
     injection g3 with g3
     subst g3
     rw [g2] at g4
     injection g4 with g4
     subst g4
     rw [hkk] at huk
     obtain ⟨es', clock', q1, q2⟩ := upd_run (P := P) hu huk hkk hyx g6 g7
     obtain ⟨s1, s2⟩ := hS.put hg g1 g5 (.map es' clock') (c' := .map kk (mput es0 key y)) ⟨b, _, _, g2, g5, putObj_same g6, q2⟩
     exact ⟨_, q1, rfl, s1, s2⟩
    ·cases h
   ·cases h
  ·rename_i kk es0 hg
   split at h
   ·rename_i hkk
    simp only [Option.some.injEq, Prod.mk.injEq] at h
    obtain ⟨rfl, rfl, rfl⟩ := h
    obtain ⟨hv', g3, b', es, clock, g4, g5, g6, g7⟩ := hS.hv hg
    rw [g1] at g3
    injection g3 with g3
    subst g3
    rw [g2] at g4
    injection g4 with g4
    subst g4
    rw [hkk] at huk
    obtain ⟨es', clock', q1, q2⟩ := upd_run (P := P) (R := AV.R ρ ι) hu huk hkk hx g6 g7
    obtain ⟨s1, s2⟩ := hS.put hg g1 g5 (.map es' clock') (c' := .maph kk (mput es0 key x)) ⟨b, _, _, g2, g5, putObj_same g6, q2⟩
    exact ⟨_, q1, rfl, s1, s2⟩
   ·cases h
  ·cases h
 ·cases h
theorem delW_ok (hT : TOk P T) (hS : SR ρ ι H w) (t : TypeId) (ts : List TypeId) (ty : TypeId) (m k : AV) {vm vk : Value} (hm : m.R ρ ι vm) (hk : k.R ρ ι vk) {cs : List Cnd} {r : AV} {H' : AH} (h : delW T H t m k = some (cs, r, H')) :
 ∃ w', (Builtin.delete_ (t :: ts).toArray ty #[vm, vk]).run P w = .ok (.tuple #[]) w' ∧ r = .junk ∧ SR ρ ι H' w' ∧ Went ρ ι H w ρ ι H' w' := by
 unfold delW at h
 split at h
 ·rename_i key h0 hkey
  obtain ⟨kt, et, hu, huk, hka⟩ := mapKey_spec hT hkey
  have hvk := keyA_spec hk hka
  subst hvk
  simp only [AV.R] at hm
  obtain ⟨hv, b, g1, g2, rfl⟩ := hm
  split at h
  ·rename_i kk es0 hg
   split at h
   ·rename_i hkk
    simp only [Option.some.injEq, Prod.mk.injEq] at h
    obtain ⟨rfl, rfl, rfl⟩ := h
    obtain ⟨hv', g3, b', es, clock, g4, g5, g6, g7⟩ := hS.hv hg
    rw [g1] at g3
    injection g3 with g3
    subst g3
    rw [g2] at g4
    injection g4 with g4
    subst g4
    rw [hkk] at huk
    obtain ⟨es', q1, q2, _⟩ := del_run (P := P) (ts := ts) (ty := ty) hu huk hkk g6 g7
    obtain ⟨s1, s2⟩ := hS.put hg g1 g5 (.map es' clock) (c' := .map kk (mdel es0 key)) ⟨b, _, _, g2, g5, putObj_same g6, q2⟩
    exact ⟨_, q1, rfl, s1, s2⟩
   ·cases h
  ·rename_i kk es0 hg
   split at h
   ·rename_i hkk
    simp only [Option.some.injEq, Prod.mk.injEq] at h
    obtain ⟨rfl, rfl, rfl⟩ := h
    obtain ⟨hv', g3, b', es, clock, g4, g5, g6, g7⟩ := hS.hv hg
    rw [g1] at g3
    injection g3 with g3
    subst g3
    rw [g2] at g4
    injection g4 with g4
    subst g4
    rw [hkk] at huk
    obtain ⟨es', q1, q2, _⟩ := del_run (P := P) (R := AV.R ρ ι) (ts := ts) (ty := ty) hu huk hkk g6 g7
    obtain ⟨s1, s2⟩ := hS.put hg g1 g5 (.map es' clock) (c' := .maph kk (mdel es0 key)) ⟨b, _, _, g2, g5, putObj_same g6, q2⟩
    exact ⟨_, q1, rfl, s1, s2⟩
   ·cases h
  ·rename_i kk es0 left i la hg
   split at h
   ·rename_i hkk
    simp only [Option.some.injEq, Prod.mk.injEq] at h
    obtain ⟨rfl, rfl, rfl⟩ := h
    obtain ⟨hv', g3, b', it, hi, es, clock, since, seen, last, k1, k2, k3, k4, k5, k6, k7, k8, k9, k10, k11, k12⟩ := hS.hv hg
    rw [g1] at g3
    injection g3 with g3
    subst g3
    rw [g2] at k1
    injection k1 with k1
    subst k1
    rw [hkk] at huk
    obtain ⟨es', q1, q2, q3⟩ := del_run (P := P) (ts := ts) (ty := ty) hu huk hkk k6 k8
    have ht := putObj_touch w b (.map es' clock)
    obtain ⟨s1, s2⟩ := hS.turn (c' := .mapit kk (mdel es0 key) left i none) (w' := putObj w b (.map es' clock)) hg g1 ⟨ht.os, ht.tape, ht.output, ht.size, fun k hk hs => ht.block k hk fun e => hs ((k5 k).2 (.inl e))⟩
     ⟨b, it, hi, es', clock, since, seen, last, g2, k2, k3, k4, k5, putObj_same k6, (by rw [ht.block it (Array.getElem?_eq_some_iff.1 k7).1 k4]; exact k7), q2, k9, fun e he => k10 e (q3 e he), fun e he => k11 e (q3 e he), fun p hp => by cases hp⟩
    exact ⟨_, q1, rfl, s1, s2⟩
   ·cases h
  ·cases h
 ·cases h
def clearF (k : IntKind) (z : Int) (off len : Nat) (f : Nat → List IV) (i : Nat) : List IV := if off ≤ i ∧ i < off + len then [.v (.int k z)] else f i
def clearR (T : TT) (H : AH) (t : TypeId) (x : AV) : WOut :=
 match elemOfT T t with
 | some (_, de) => match de.zero, x with
   | some (.int k z), .row h sz off len => bif Nat.beq de.size 1 && Nat.beq sz 1 then
      match H.get h with
      | some (.rowc e sz' n f) => bif Nat.beq sz' 1 then some ([], .junk, H.set h (.rowc e 1 n (clearF k z off len f))) else none
      | _ => none
     else none
   | _, _ => none
 | none => none
theorem zeroCells_one (k : IntKind) (z : Int) (n : Nat) : (Builtin.zeroCells (Value.int k z).cells n).toList = List.replicate n (Value.int k z) := by
 apply List.ext_getElem?
 intro i
 have hc : (Value.int k z).cells = #[Value.int k z] := rfl
 rw [hc]
 simp only [Builtin.zeroCells, List.size_toArray, List.length_cons, List.length_nil, Nat.zero_add, Nat.mul_one, Nat.mod_one, Array.toList_map, Array.toList_range, List.getElem?_map, List.getElem?_replicate]
 by_cases h : i < n
 ·rw [List.getElem?_range h, if_pos h]
  rfl
 ·rw [List.getElem?_eq_none (by simp; omega), if_neg h]
  rfl
theorem clearR_ok (hT : TOk P T) (hS : SR ρ ι H w) (t : TypeId) (ty : TypeId) (x : AV) {u : Value} (hx : x.R ρ ι u) {cs : List Cnd} {r : AV} {H' : AH} (h : clearR T H t x = some (cs, r, H')) :
 ∃ w', (Builtin.clear_ #[t] ty #[u]).run P w = .ok (.tuple #[]) w' ∧ r = .junk ∧ SR ρ ι H' w' ∧ Went ρ ι H w ρ ι H' w' := by
 unfold clearR at h
 split at h
 ·rename_i e0 de he
  obtain ⟨hu, hde⟩ := elemOfT_spec hT he
  split at h
  ·rename_i k z h0 sz off len hz
   cases hb : (Nat.beq de.size 1 && Nat.beq sz 1) with
   | false => rw [hb] at h; cases h
   | true =>
     rw [hb] at h
     simp only [cond_true] at h
     rw [Bool.and_eq_true] at hb
     have hsz := Nat.eq_of_beq_eq_true hb.2
     subst hsz
     split at h
     ·rename_i e sz' n f hg
      cases hb2 : Nat.beq sz' 1 with
      | false => rw [hb2] at h; cases h
      | true =>
        rw [hb2] at h
        simp only [cond_true, Option.some.injEq, Prod.mk.injEq] at h
        obtain ⟨rfl, rfl, rfl⟩ := h
        have := Nat.eq_of_beq_eq_true hb2
        subst this
        have hzr := run_zero' hT hde hz w
        obtain ⟨hv, g1, g2⟩ := hS.hv hg
        simp only [AV.R] at hx
        obtain ⟨A, c, rfl, x1, x2, x3⟩ := hx
        rcases Nat.eq_zero_or_pos len with hl | hl
        ·subst hl
         have hf : ∀ i, clearF k z off 0 f i = f i := fun i => if_neg (by omega)
         have hf' : clearF k z off 0 f = f := funext hf
         rw [hf']
         obtain ⟨s1, s2⟩ := hS.turn hg g1 (Touch.refl _ w) g2
         refine ⟨w, ?_, rfl, s1, s2⟩
         cases A with
         | none => simp [Builtin.clear_, run_underlying hu]
         | some a => simp [Builtin.clear_, run_underlying hu]
        ·obtain ⟨hv', b, q1, q2, rfl, q4⟩ := x3 (by omega)
         rw [g1] at q1; injection q1 with q1; subst q1
         rcases g2 with ⟨k1, _, _⟩ | ⟨b', arr, fr, k1, k2, k3, k4, k5, k6, k7⟩
         ·rw [q2] at k1; cases k1
         rw [q2] at k1; injection k1 with k1; subst k1
         have hst := run_stores (P := P) (b := b) (e := e) (fr := fr) (off * 1) (List.replicate len (Value.int k z)) 0 arr w k3 k5 (by simp; omega) (fun v hv => by rw [List.eq_of_mem_replicate hv]; rfl)
         obtain ⟨s1, s2⟩ := hS.put hg g1 k2 (.cells (layArr arr (off * 1 + 0) (List.replicate len (Value.int k z))) e fr) (c' := .rowc e 1 n (clearF k z off len f)) (.inr ⟨b, _, fr, q2, k2, putObj_same k3, by rw [layArr_size]; exact k4, by rw [layArr_size]; exact k5, by rw [layArr_size]; exact k6, fun i hi => by
          by_cases hr : off ≤ i ∧ i < off + len
          ·refine ⟨[.int k z], by unfold clearF; rw [if_pos hr]; simp only [IV.Rs, IV.R]; exact ⟨_, _, rfl, rfl, rfl⟩, rfl, fun v hv => by rw [List.mem_singleton.1 hv]; rfl, fun j u hj => ?_⟩
           have hj0 : j = 0 := by
            have := (List.getElem?_eq_some_iff.1 hj).1
            simp at this
            exact this
           subst hj0
           simp only [List.getElem?_cons_zero, Option.some.injEq] at hj
           subst hj
           have h9 := layArr_in (List.replicate len (Value.int k z)) arr (off * 1 + 0) (i - off) (by simp; omega) (by simp; omega)
           rw [show off * 1 + 0 + (i - off) = i * 1 + 0 by omega] at h9
           rw [h9, List.getElem?_replicate, if_pos (by omega)]
          ·obtain ⟨vs, a1, a2, a3, a4⟩ := k7 i hi
           refine ⟨vs, by unfold clearF; rw [if_neg hr]; exact a1, a2, a3, fun j u hj => ?_⟩
           have hj1 : j < 1 := by rw [← a2]; exact (List.getElem?_eq_some_iff.1 hj).1
           rw [layArr_out _ _ _ _ (by simp; omega)]
           exact a4 j u hj⟩)
         simp only [Nat.mul_one, Nat.add_zero] at hst s1 s2
         refine ⟨_, ?_, rfl, s1, s2⟩
         obtain ⟨m, rfl⟩ : ∃ m, len = m + 1 := ⟨len - 1, by omega⟩
         simp [Builtin.clear_, run_underlying hu, hzr, zeroCells_one, hst]
     ·cases h
  ·cases h
 ·cases h
def clearM (T : TT) (H : AH) (t : TypeId) (x : AV) : WOut :=
 match x with
 | .mp h => match T.get t with
   | some d => match d.k with
     | .mp _ _ => match H.get h with
       | some (.map kk _) => some ([], .junk, H.set h (.map kk []))
       | _ => none
     | _ => none
   | none => none
 | _ => none
def clearW (T : TT) (H : AH) (t : TypeId) (x : AV) : WOut := match clearM T H t x with
 | some r => some r
 | none => clearR T H t x
theorem clearW_ok (hT : TOk P T) (hS : SR ρ ι H w) (t : TypeId) (ty : TypeId) (x : AV) {u : Value} (hx : x.R ρ ι u) {cs : List Cnd} {r : AV} {H' : AH} (h : clearW T H t x = some (cs, r, H')) :
 ∃ w', (Builtin.clear_ #[t] ty #[u]).run P w = .ok (.tuple #[]) w' ∧ r = .junk ∧ SR ρ ι H' w' ∧ Went ρ ι H w ρ ι H' w' := by
 unfold clearW at h
 split at h
 ·rename_i y hy
  injection h with h
  subst h
  unfold clearM at hy
  split at hy
  ·rename_i h0
   split at hy
   ·rename_i d hd
    split at hy
    ·rename_i kt et hk
     split at hy
     ·rename_i kk m0 hg
      simp only [Option.some.injEq, Prod.mk.injEq] at hy
      obtain ⟨rfl, rfl, rfl⟩ := hy
      have hu := td_mp hT hd hk
      simp only [AV.R] at hx
      obtain ⟨hv, b, g1, g2, rfl⟩ := hx
      obtain ⟨hv', g3, b', es, clock, g4, g5, g6, g7⟩ := hS.hv hg
      rw [g1] at g3; injection g3 with g3; subst g3
      rw [g2] at g4; injection g4 with g4; subst g4
      have hobj := run_getObj (P := P) g6 (fun _ _ _ => by simp)
      have hset := run_setObj (P := P) (o' := .map #[] clock) g6 (fun _ _ _ => by simp)
      obtain ⟨s1, s2⟩ := hS.put hg g1 g5 (.map #[] clock) (c' := .map kk []) ⟨b, #[], clock, g2, g5, putObj_same g6, ⟨(fun p hp => by cases hp), ⟨[], List.Perm.refl _, rfl⟩, List.nodup_nil, List.nodup_nil, (fun e he => by cases he)⟩⟩
      exact ⟨_, by simp [Builtin.clear_, run_underlying hu, hobj, hset], rfl, s1, s2⟩
     ·cases hy
    ·cases hy
   ·cases hy
  ·cases hy
 ·exact clearR_ok hT hS t ty x hx h
end
end Go.Proofs.YtgfkepebfaiepaaGreatDoor.Ax
