/-
  Closed runs: iterators.
-/
import Derived.Test.YtjhaikcokbmdbaaGreatDoorCxM
namespace Go.Proofs.YtjhaikcokbmdbaaGreatDoor.Cx
open Go.RowKit Go.Proofs.YtjhaikcokbmdbaaGreatDoor.Ax

section
variable {P : Program} {ρ : Rho} {W w : World} {H : CH}
theorem rangeC_ok (hS : SR W ρ H w) (t : Nat) (x : CV) {v : Value} (hx : x.R ρ v) : (rangeC (mkTD P) H t x).wr P W ρ H w (Instr.range t v) := by
  unfold rangeC
  split
  · rename_i d l hd
    split
    · rename_i hk
      obtain ⟨hl, rfl⟩ := R_str' hx
      refine ⟨.pointer (some ⟨w.heap.size, 0, none⟩), w.alloc (.stringIter ⟨(u8s l).toArray⟩ 0), ρ.ext H.next (w.heap.size, 0), ?_, Rho.le_ext (hS.fresh _ (Nat.le_refl _)), hS.fresh1 (hS.push _) (by simp) (fun _ _ _ _ h => by cases h) ⟨hl, alloc_new _ _⟩, R_newPtr⟩
      simp [Instr.range, run_underlying (u_str hd hk)]
    · exact trivial
  · rename_i d h hd
    split
    · rename_i k e kk ver m bs hk hg
      simp only [CV.R] at hx
      obtain ⟨b, q, g1, rfl⟩ := hx
      obtain ⟨es, clock, g2, g3, g4, _⟩ := hS.p hg g1
      have hobj := run_getObj (P := P) g2 (fun _ _ _ => by simp)
      have hle := Rho.le_ext (p := (w.heap.size, 0)) (hS.fresh _ (Nat.le_refl _))
      have hblt : b < w.heap.size := (Array.getElem?_eq_some_iff.1 g2).1
      have hleft : ∀ k ∈ mapL (·.1) m, ∃ p ∈ m, p.1 = k := fun k hk => by
        rw [mapL_eq] at hk
        obtain ⟨p, hp, rfl⟩ := List.mem_map.1 hk
        exact ⟨p, hp, rfl⟩
      refine ⟨.pointer (some ⟨w.heap.size, 0, none⟩), w.alloc (.mapIter (some b) clock #[] clock), ρ.ext H.next (w.heap.size, 0), ?_, hle, (hS.push _).bind ⟨b, q, clock, #[], clock, hle _ _ g1, alloc_new _ _, fun k hk => ?_, fun k hk => by cases hk⟩ hS.base.size (fun h d q hd hq => Nat.ne_of_lt (Chunk.R_lt (hS.p hd hq))) (fun hm ver' left last he => ?_), R_newPtr⟩
      · simp [Instr.range, run_underlying (u_mp hd hk), hobj]
      · obtain ⟨p, hp, rfl⟩ := hleft k hk
        exact g4 p hp
      · cases he
        intro kk' m' bs' bm since seen st es' clock' q' v h1 h2
        rw [hg] at h1
        cases h1
        refine ⟨Nat.le_refl _, fun _ k1 k2 => ?_⟩
        rw [alloc_new] at k1
        cases k1
        rw [g1] at h2
        cases h2
        have : (w.alloc (.mapIter (some b) clock #[] clock)).heap[b]? = some (.map es clock) := (heap_alloc_old w _ hblt).trans g2
        rw [this] at k2
        cases k2
        obtain ⟨l, hp, hz⟩ := g3.zip
        refine ⟨rfl, rfl, fun e he => ⟨fun _ => ?_, fun _ => by simp⟩, ?_, fun k hk => by cases hk⟩
        · obtain ⟨p, hpm, hkey, _⟩ := hz.mem e (hp.mem_iff.2 he)
          obtain ⟨p', hp', rfl⟩ := List.mem_map.1 hpm
          exact ⟨p'.1, by rw [mapL_eq]; exact List.mem_map_of_mem hp', hkey⟩
        · rw [mapL_eq, List.map_map]
          have := g3.keys
          simp only [toM, List.map_map] at this
          exact this
    · exact trivial
  · exact trivial
theorem kdel_cons (p : CK) (m : List CK) (k : CK) : kdel (p :: m) k = bif ckeq p k then m else p :: kdel m k := rfl
theorem kdel_spec {key : CK} (hk : key.ok) : ∀ (m : List CK), (∀ q ∈ m, q.ok) → (m.map CK.mk).Nodup → (∀ q, q ∈ kdel m key ↔ q ∈ m ∧ q.mk ≠ key.mk) ∧ ((kdel m key).map CK.mk).Nodup
  | [], _, _ => ⟨fun q => by show q ∈ [] ↔ _; simp, by show ([] : List MK).Nodup; simp⟩
  | p :: m, h, hn => by
    have h1 := h p (List.mem_cons_self ..)
    rw [List.map_cons, List.nodup_cons] at hn
    obtain ⟨h2, h3⟩ := kdel_spec hk m (fun q hq => h q (List.mem_cons_of_mem _ hq)) hn.2
    rw [kdel_cons, ckeq_eq h1 hk]
    by_cases e : p.mk = key.mk
    · simp only [e, decide_true, cond_true]
      refine ⟨fun q => ⟨fun hq => ⟨List.mem_cons_of_mem _ hq, fun e' => hn.1 (by rw [e, ← e']; exact List.mem_map_of_mem hq)⟩, fun hq => ?_⟩, hn.2⟩
      rcases List.mem_cons.1 hq.1 with rfl | hq'
      · exact absurd e hq.2
      · exact hq'
    · simp only [e, decide_false, cond_false]
      refine ⟨fun q => ⟨fun hq => ?_, fun hq => ?_⟩, ?_⟩
      · rcases List.mem_cons.1 hq with rfl | hq'
        · exact ⟨List.mem_cons_self .., e⟩
        · exact ⟨List.mem_cons_of_mem _ ((h2 q).1 hq').1, ((h2 q).1 hq').2⟩
      · rcases List.mem_cons.1 hq.1 with rfl | hq'
        · exact List.mem_cons_self ..
        · exact List.mem_cons_of_mem _ ((h2 q).2 ⟨hq', hq.2⟩)
      · rw [List.map_cons, List.nodup_cons]
        refine ⟨fun hm => ?_, h3⟩
        obtain ⟨q, hq, e'⟩ := List.mem_map.1 hm
        exact hn.1 (by rw [← e']; exact List.mem_map_of_mem ((h2 q).1 hq).1)
theorem R_key {k : CK} (h : k.ok) : (keyV k).R ρ k.mk.val := by
  cases k with
  | s l => exact R_str h
  | i k n => exact R_int ..
  | a l =>
    show (CV.agg (mapL (fun p => CV.int p.1 p.2) l)).R ρ (.agg (l.map fun p => Value.int p.1 p.2).toArray)
    simp only [CV.R]
    exact ⟨_, rfl, Rs_pairs l⟩
theorem R_tup3 {x y z : CV} {u v t : Value} (hx : x.R ρ u) (hy : y.R ρ v) (hz : z.R ρ t) : (CV.tup [x, y, z]).R ρ (.tuple #[u, v, t]) := by
  simp only [CV.R, CV.Rs]
  exact ⟨[u, v, t], rfl, u, _, rfl, hx, v, _, rfl, hy, t, _, rfl, hz, rfl⟩
theorem R_tup1 {x : CV} {u : Value} (hx : x.R ρ u) : (CV.tup [x]).R ρ (.tuple #[u]) := by
  simp only [CV.R, CV.Rs]
  exact ⟨[u], rfl, u, _, rfl, hx, rfl⟩
/-- The value that a map holds at an entry's key. -/
theorem entry_val {kk : KK} {m : List (CK × CV)} {es : Array MapEntry} {clock : Nat} (h : MapR (CV.R ρ) kk (toM m) es clock) (hm : ∀ q ∈ m, q.1.ok) {e : MapEntry} (he : e ∈ es.toList) {k : CK} (hk : k.ok) (hek : e.key = k.mk.val) : ∃ v, mget m k = some v ∧ v.R ρ e.val := by
  obtain ⟨l, hp, hz⟩ := h.zip
  obtain ⟨p, hpm, hkey, hval⟩ := hz.mem e (hp.mem_iff.2 he)
  have e1 : p.1 = k.mk := MK.val_inj (hkey.symm.trans hek)
  have e2 : mfind (toM m) k.mk = some p.2 := by
    cases hf : mfind (toM m) k.mk with
    | none => exact absurd e1 (mfind_none hf p hpm)
    | some x =>
      have := nodup_key h.keys (mfind_some hf) hpm e1.symm
      rw [← this]
  rw [mget_toM hk m hm] at e2
  exact ⟨p.2, e2, hval⟩
/-- A key that a map holds has an entry. -/
theorem entry_of {kk : KK} {m : List (CK × CV)} {es : Array MapEntry} {clock : Nat} (h : MapR (CV.R ρ) kk (toM m) es clock) (hm : ∀ q ∈ m, q.1.ok) {k : CK} (hk : k.ok) {v : CV} (hv : mget m k = some v) : ∃ e ∈ es.toList, e.key = k.mk.val := by
  obtain ⟨l, hp, hz⟩ := h.zip
  rw [← mget_toM hk m hm] at hv
  obtain ⟨e, he, hkey, _⟩ := hz.mem' _ (mfind_some hv)
  exact ⟨e, hp.mem_iff.1 he, hkey⟩
theorem liveL_spec (m : List (CK × CV)) (k : CK) : ∀ left : List CK, k ∈ liveL m left ↔ k ∈ left ∧ ∃ v, mget m k = some v
  | [] => by show k ∈ [] ↔ _; simp
  | x :: xs => by
    have e : liveL m (x :: xs) = bif hasC m x then x :: liveL m xs else liveL m xs := rfl
    have ih := liveL_spec m k xs
    rw [e]
    unfold hasC
    cases hx : mget m x with
    | none =>
      simp only [cond_false]
      rw [ih, List.mem_cons]
      refine ⟨fun h => ⟨.inr h.1, h.2⟩, fun h => ⟨h.1.resolve_left fun e => ?_, h.2⟩⟩
      subst e
      obtain ⟨v, hv⟩ := h.2
      rw [hx] at hv
      cases hv
    | some y =>
      simp only [cond_true]
      rw [List.mem_cons, ih, List.mem_cons]
      refine ⟨fun h => ?_, fun h => ?_⟩
      · rcases h with rfl | h
        · exact ⟨.inl rfl, y, hx⟩
        · exact ⟨.inr h.1, h.2⟩
      · rcases h.1 with rfl | h1
        · exact .inl rfl
        · exact .inr ⟨h1, h.2⟩
theorem app_del (H : CH) (h : Nat) : Cmd.app (.del h) H = H.del h := rfl
theorem nextC_ok (hS : SR W ρ H w) (x : CV) (isS : Bool) (ty : TypeId) {v : Value} (hx : x.R ρ v) : (nextC H x isS).wr P W ρ H w (Instr.next v isS ty) := by
  unfold nextC
  split
  · rename_i h
    simp only [CV.R] at hx
    obtain ⟨b, q, g1, rfl⟩ := hx
    split
    · rename_i l pos hg
      obtain ⟨hl, g2⟩ := hS.p hg g1
      have hobj := run_getObj (P := P) g2 (fun _ _ _ => by simp)
      have hsz : (⟨(u8s l).toArray⟩ : ByteArray).size = l.length := by simp [ByteArray.size, u8s]
      have hobj : (getObj b).run P w = .ok (.stringIter ⟨(u8s l).toArray⟩ pos) w := hobj
      split
      · rename_i hn
        rw [nth_eq, List.getElem?_eq_none_iff] at hn
        have hlt : ¬ (pos < l.length) := by omega
        refine ⟨.tuple #[.bool false], w, ρ, ?_, Rho.le.refl _, hS.del h, R_tup1 (R_bool false)⟩
        simp [Instr.next, hobj, hsz, hlt]
      · rename_i c hn
        rw [nth_eq] at hn
        have hlt := (List.getElem?_eq_some_iff.1 hn).1
        have hc : c < 256 := hl c (List.mem_of_getElem? hn)
        have run : ∀ r n, Utf8.decode ⟨(u8s l).toArray⟩ pos = (r, n) → (Instr.next (.pointer (some ⟨b, 0, none⟩)) true ty).run P w = .ok (.tuple #[.bool true, .int .i64 (pos : Int), .int .i32 (r : Int)]) (putObj w b (.stringIter ⟨(u8s l).toArray⟩ (pos + n))) := fun r n hd => by
          have hset := run_setObj (P := P) (o' := .stringIter ⟨(u8s l).toArray⟩ (pos + n)) g2 (fun _ _ _ => by simp)
          simp [Instr.next, hobj, hsz, hlt, hd, hset, goInt]
        have fin : ∀ r n, Utf8.decode ⟨(u8s l).toArray⟩ pos = (r, n) → (Out.new (.tup [.bool true, .int .i64 (.ofNat pos), .int .i32 (.ofNat r)]) (.set h (.siter l (pos + n)))).wr P W ρ H w (Instr.next (.pointer (some ⟨b, 0, none⟩)) true ty) := fun r n hd =>
          ⟨_, _, ρ, run r n hd, Rho.le.refl _, hS.put hg g1 (.stringIter ⟨(u8s l).toArray⟩ (pos + n)) ⟨hl, putObj_same g2⟩ (fun _ _ _ _ h => by cases h) (fun _ _ _ _ h => by cases h), R_tup3 (R_bool true) (R_int ..) (R_int ..)⟩
        cases hb : Nat.blt c 128 with
        | true =>
          have hb : c < 128 := by rw [← Nat.blt_eq]; exact hb
          simp only [cond_true]
          refine fin c 1 ?_
          have hlt' : pos < (⟨(u8s l).toArray⟩ : ByteArray).size := by rw [hsz]; exact hlt
          have hcell : (⟨(u8s l).toArray⟩ : ByteArray)[pos]'hlt' = UInt8.ofNat c := by
            have e0 : (⟨(u8s l).toArray⟩ : ByteArray)[pos]'hlt' = (u8s l)[pos]'(by simpa [u8s] using hlt) := rfl
            rw [e0]
            have e1 : l[pos] = c := by rw [List.getElem?_eq_getElem hlt] at hn; injection hn
            simp [u8s, e1]
          have htn : ((⟨(u8s l).toArray⟩ : ByteArray)[pos]'hlt').toNat = c := by rw [hcell, UInt8.toNat_ofNat', Nat.mod_eq_of_lt hc]
          have := decode_ascii ⟨(u8s l).toArray⟩ pos hlt' (by rw [htn]; exact hb)
          rw [this, htn]
        | false =>
          simp only [cond_false]
          exact fin _ _ rfl
    · rename_i hm ver left last hg
      obtain ⟨bm, mm, since, seen, st, g2, g3, g4, g5⟩ := hS.p hg g1
      split
      · rename_i kk ver' m bs hgm
        cases hv : Nat.beq ver ver' with
        | false => exact trivial
        | true =>
          have hv := Nat.eq_of_beq_eq_true hv
          subst hv
          simp only [cond_true]
          obtain ⟨es, clock, k1, k2, k3, _⟩ := hS.p hgm g2
          obtain ⟨_, hit⟩ := hS.iter h _ hm _ ver left last kk m bs bm since seen st es clock ver hg hgm g1 g2
          obtain ⟨rfl, rfl, i3, i5, i6⟩ := hit rfl g3 k1
          rcases next_run (P := P) ty g3 k1 (Nat.le_refl _) (fun e he => k2.clock e he) with ⟨e, w1, n1, n2, n3, n4⟩ | ⟨n1, n2⟩
          · obtain ⟨k, hkl, hek⟩ := (i3 e n1).1 n2
            have hkok := g4 k hkl
            obtain ⟨d1, d2⟩ := kdel_spec hkok left g4 i5
            have hS1 : SR W ρ H w1 := by rcases n3 with rfl | rfl; exact hS; exact hS.drew
            have hheap : w1.heap = w.heap := by rcases n3 with rfl | rfl <;> rfl
            obtain ⟨y, hy1, hy2⟩ := entry_val k2 k3 n1 hkok hek
            have hlive := (liveL_spec m k left).2 ⟨hkl, y, hy1⟩
            split
            · rename_i hl0
              rw [hl0] at hlive
              cases hlive
            · refine ⟨.tup [.bool true, keyV k, (mget m k).getD .junk], .set h (.miter hm ver (kdel left k) (some k)), ?_, _, _, ρ, n4, Rho.le.refl _, hS1.put hg g1 (.mapIter (some bm) st (seen.push e.born) st) ⟨bm, mm, st, seen.push e.born, st, g2, ?_, fun k' hk' => g4 k' ((d1 k').1 hk').1, fun k' hk' => by cases hk'; exact hkok⟩ (fun hm' ver' left' last' he => ?_) (fun _ _ _ _ h => by cases h), ?_⟩
              · rw [mapL_eq]
                exact List.mem_map_of_mem (f := fun k => (CV.tup [.bool true, keyV k, (mget m k).getD .junk], Cmd.set h (.miter hm ver (kdel left k) (some k)))) hlive
              · exact putObj_same (w := w1) (o := .mapIter (some bm) st seen st) (by rw [hheap]; exact g3)
              · cases he
                intro kk' m' bs' bm' since' seen' st' es' clock' q' v' e1 e2 e3
                rw [hgm] at e1
                cases e1
                refine ⟨Nat.le_refl _, fun _ e4 e5 => ?_⟩
                rw [g2] at e3
                cases e3
                rw [hheap] at e5
                have k1' : w.heap[bm]? = some (.map es st) := k1
                rw [k1'] at e5
                cases e5
                cases e4
                refine ⟨rfl, rfl, fun e' he' => ?_, d2, fun k' hk' e' he' hek' => ?_⟩
                · rw [Array.toList_push, List.mem_append, List.mem_singleton, not_or, i3 e' he']
                  constructor
                  · rintro ⟨⟨k', hk', hek'⟩, hne⟩
                    exact ⟨k', (d1 k').2 ⟨hk', fun e1 => hne (by rw [k2.key_inj he' n1 (by rw [hek', hek, e1])])⟩, hek'⟩
                  · rintro ⟨k', hk', hek'⟩
                    exact ⟨⟨k', ((d1 k').1 hk').1, hek'⟩, fun e1 => ((d1 k').1 hk').2 (MK.val_inj (by rw [← hek', ← hek, k2.born_inj he' n1 e1]))⟩
                · cases hk'
                  rw [k2.key_inj he' n1 (by rw [hek', hek])]
                  simp
              · rw [hy1]
                exact R_tup3 (R_bool true) (by rw [hek]; exact R_key hkok) hy2
          · split
            · exact ⟨_, _, ρ, n2, Rho.le.refl _, hS.del h, R_tup1 (R_bool false)⟩
            · rename_i l hl0
              exfalso
              obtain ⟨k, hk⟩ := List.exists_mem_of_ne_nil _ hl0
              obtain ⟨hkl, v, hv⟩ := (liveL_spec m k left).1 hk
              obtain ⟨e, he, hek⟩ := entry_of k2 k3 (g4 k hkl) hv
              exact (i3 e he).2 ⟨k, hkl, hek⟩ (n1 e he)
      · exact trivial
    · exact trivial
  · exact trivial
theorem entryC_ok (hS : SR W ρ H w) (x : CV) {v : Value} (hx : x.R ρ v) : (entryC H x).rd P ρ w (Instr.entry v) := by
  unfold entryC
  split
  · rename_i h
    simp only [CV.R] at hx
    obtain ⟨b, q, g1, rfl⟩ := hx
    split
    · rename_i hm ver left k hg
      obtain ⟨bm, mm, since, seen, st, g2, g3, g4, g5⟩ := hS.p hg g1
      split
      · rename_i kk ver' m bs hgm
        cases hv : Nat.beq ver ver' with
        | false => exact trivial
        | true =>
          have hv := Nat.eq_of_beq_eq_true hv
          subst hv
          simp only [cond_true]
          obtain ⟨es, clock, k1, k2, k3, _⟩ := hS.p hgm g2
          obtain ⟨_, hit⟩ := hS.iter h _ hm _ ver left _ kk m bs bm since seen st es clock ver hg hgm g1 g2
          obtain ⟨rfl, rfl, i3, i5, i6⟩ := hit rfl g3 k1
          have hkok := g5 k rfl
          cases hy : mget m k with
          | none => exact trivial
          | some y0 =>
          obtain ⟨e, he, hek⟩ := entry_of k2 k3 hkok hy
          have hb := i6 k rfl e he hek
          obtain ⟨y, hy1, hy2⟩ := entry_val k2 k3 he hkok hek
          rw [hy] at hy1
          cases hy1
          refine ⟨.tuple #[e.key, e.val], ?_, R_tup2 (by rw [hek]; exact R_key hkok) hy2⟩
          have o1 := run_getObj (P := P) g3 (fun _ _ _ => by simp)
          have o2 := run_getObj (P := P) k1 (fun _ _ _ => by simp)
          have o3 : es.find? (fun e' => e'.born == e.born) = some e := by
            cases hf : es.find? (fun e' => e'.born == e.born) with
            | none =>
              have := Array.find?_eq_none.1 hf e (by simpa using he)
              simp at this
            | some e' =>
              have h1 := Array.find?_some hf
              have h2 := Array.mem_of_find?_eq_some hf
              exact congrArg some (k2.born_inj (by simpa using h2) he (by simpa using h1))
          simp [Instr.entry, o1, o2, hb, o3]
      · exact trivial
    · exact trivial
  · exact trivial
theorem mentC_ok (hlo : laidOutB P = true) (hS : SR W ρ H w) (t : Nat) (m k : CV) {v u : Value} (hm : m.R ρ v) (hk : k.R ρ u) : (mentC P (mkTD P) H t m k).wr P W ρ H w (Instr.mapEntry t v u) := by
  unfold mentC
  split
  · rename_i kk et hmt
    obtain ⟨hu, _⟩ := mapT_spec hmt
    split
    · rename_i key h z hkey hz
      obtain ⟨rfl, hkk, hok⟩ := keyC_spec hk hkey
      have hzr : (zeroValue et).run P w = .ok z w := by
        cases hd : mkTD P et with
        | none => rw [hd] at hz; cases hz
        | some d => rw [hd] at hz; exact r_zero hd hz w
      simp only [CV.R] at hm
      obtain ⟨b, q, g1, rfl⟩ := hm
      split
      · rename_i kk' ver mm c l hg
        obtain ⟨es, clock, g2, g3, g4, g5⟩ := hS.p hg g1
        obtain ⟨rfl, g6, g7⟩ := g5 c l rfl
        cases he : (eqKK kk kk' && keyGo P (ktOf (mkTD P) t) kk mm key) with
        | false => exact trivial
        | true =>
          rw [Bool.and_eq_true] at he
          have := eqKK_spec he.1
          subst this
          simp only [cond_true]
          obtain ⟨K, hK, hall⟩ := krun hlo hmt hkk he.2
          have hobj := run_getObj (P := P) g2 (fun _ _ _ => by simp)
          have hck := hK.check w false
          rcases hK.at (w := w) g3 (hall g3.kind) with ⟨f1, f2, f3⟩ | ⟨x, j, e, f1, f2, f3, f4, f5⟩
          · rw [mget_toM hok _ g4] at f1
            rw [f1]
            simp only [ckK_eq]
            have hset := run_setObj (P := P) (o' := .map (es.push { key := key.mk.val, val := z, born := clock }) (clock + 1)) g2 (fun _ _ _ => by simp)
            obtain ⟨k1, k2⟩ := mput_toM hok (CV.ofV z) mm g4
            have hR := g3.push (x := CV.ofV z) (v := z) hkk f3 (R_ofV z)
            have hup := (Grown.push (es := es) (clock := clock) (m0 := toM mm) (by rw [mget_toM hok _ g4]; exact f1) f3 z).bsUp hok g4 g5
            have hbs : bsUp (some (clock, l)) mm key = some (clock + 1, (key, clock) :: l) := by
              unfold bsUp hasC
              rw [f1]
              rfl
            rw [hbs] at hup
            refine ⟨_, _, ρ, ?_, Rho.le.refl _, hS.put hg g1 (.map (es.push { key := key.mk.val, val := z, born := clock }) (clock + 1)) ⟨_, _, putObj_same g2, by rw [k1]; exact hR, k2, hup⟩ (fun _ _ _ _ h => by cases h) (fun _ _ _ _ h => by cases h; exact ⟨_, _, _, _, rfl, .inl (Nat.lt_succ_self _)⟩), R_tup2 (R_ofV z) (R_int ..)⟩
            simp only [Instr.mapEntry, Sem.run_bind, run_underlying hu, Result.andThen_ok, hobj, hck, f2, hzr, hset, Sem.run_pure]
            rfl
          · rw [mget_toM hok _ g4] at f1
            rw [f1]
            have hb := g7 e (List.mem_of_getElem? f3) key hok f4
            rw [hb]
            simp only [natK_eq]
            have hej : es[j]? = some e := by simpa using f3
            have hstay : (Instr.keyThatStays e.key key.mk.val).run P w = .ok key.mk.val w := by
              rw [f4]
              exact hK.stays w
            have hset := run_setObj (P := P) (o' := .map (es.modify j fun e => { e with key := key.mk.val }) clock) g2 (fun _ _ _ => by simp)
            have hsm : (es.modify j fun e => { e with key := key.mk.val }) = es := by
              apply Array.ext (by simp)
              intro i h1 h2
              rw [Array.getElem_modify]
              split
              · rename_i hij
                subst hij
                have : es[j] = e := by
                  have := Array.getElem?_eq_getElem h2
                  rw [hej] at this
                  injection this with this
                  exact this.symm
                rw [this, ← f4]
              · rfl
            have hw : putObj w b (.map es clock) = w := putObj_id g2
            rw [hsm, hw] at hset
            refine ⟨_, w, ρ, ?_, Rho.le.refl _, hS, R_tup2 f5 (R_int ..)⟩
            simp only [Instr.mapEntry, Sem.run_bind, run_underlying hu, Result.andThen_ok, hobj, hck, f2, hstay, hsm, hset, Sem.run_pure, hej, Option.map_some, Option.getD_some]
            rfl
      · exact trivial
    · exact trivial
  · exact trivial
theorem estC_ok (hS : SR W ρ H w) (t : Nat) (m s x : CV) {v u y : Value} (hm : m.R ρ v) (hs : s.R ρ u) (hx : x.R ρ y) : (estC H m s x).wu P W ρ H w (Instr.entryStore t v u y) := by
  unfold estC
  split
  · rename_i h k n
    simp only [CV.R] at hm hs
    obtain ⟨b, q, g1, rfl⟩ := hm
    subst hs
    split
    · rename_i kk ver mm c l hg
      obtain ⟨es, clock, g2, g3, g4, g5⟩ := hS.p hg g1
      obtain ⟨rfl, g6, g7⟩ := g5 c l rfl
      split
      · rename_i key hkey
        obtain ⟨b', hb'⟩ := bkey_spec hkey
        have hok : key.ok := g6 _ hb'
        split
        · rename_i x0 b0 hx0 hb0
          cases hbe : Nat.beq b0 n with
          | false => exact trivial
          | true =>
            have := Nat.eq_of_beq_eq_true hbe
            subst this
            simp only [cond_true, ckK_eq]
            obtain ⟨e, he, hek⟩ := entry_of g3 g4 hok hx0
            have hbe2 := g7 e he key hok hek
            rw [hb0] at hbe2
            injection hbe2 with hbe2
            have hobj := run_getObj (P := P) g2 (fun _ _ _ => by simp)
            have hfi : ∃ i, es.findIdx? (fun e' => (e'.born : Int) == Int.ofNat b0) = some i ∧ es[i]? = some e := by
              cases hf : es.findIdx? (fun e' => (e'.born : Int) == Int.ofNat b0) with
              | none =>
                rw [Array.findIdx?_eq_none_iff] at hf
                have := hf e (by simpa using he)
                rw [← hbe2] at this
                simp at this
              | some i =>
                obtain ⟨hi, h1, _⟩ := Array.findIdx?_eq_some_iff_getElem.1 hf
                refine ⟨i, rfl, ?_⟩
                rw [Array.getElem?_eq_getElem hi]
                have h2 : es[i].born = b0 := Int.ofNat.inj (eq_of_beq h1)
                exact congrArg some (g3.born_inj (by simp) he (by rw [h2, hbe2]))
            obtain ⟨i, hi1, hi2⟩ := hfi
            have f3 : es.toList[i]? = some e := by simpa using hi2
            have hset := run_setObj (P := P) (o' := .map (es.modify i fun e => { e with val := y }) clock) g2 (fun _ _ _ => by simp)
            have hsm : (es.modify i fun e => { e with val := y }) = es.modify i fun e => { e with key := key.mk.val, val := y } := by
              apply Array.ext (by simp)
              intro j h1 h2
              rw [Array.getElem_modify, Array.getElem_modify]
              split
              · rename_i hij
                subst hij
                have h3 : i < es.size := by simpa using h1
                have : es[i] = e := by
                  have := Array.getElem?_eq_getElem h3
                  rw [hi2] at this
                  injection this with this
                  exact this.symm
                rw [this, ← hek]
              · rfl
            rw [hsm] at hset
            obtain ⟨k1, k2⟩ := mput_toM hok x mm g4
            have hR := g3.update f3 hek hx
            have hf : mfind (toM mm) key.mk ≠ none := by rw [mget_toM hok _ g4, hx0]; simp
            have hup := (Grown.modify (clock := clock) hf f3 hek y).bsUp hok g4 g5
            have hbs : bsUp (some (clock, l)) mm key = some (clock, l) := by
              unfold bsUp hasC
              rw [hx0]
              rfl
            rw [hbs] at hup
            refine ⟨_, ρ, ?_, Rho.le.refl _, hS.put hg g1 (.map (es.modify i fun e => { e with key := key.mk.val, val := y }) clock) ⟨_, _, putObj_same g2, by rw [k1]; exact hR, k2, hup⟩ (fun _ _ _ _ h => by cases h) (fun _ _ _ _ h => by cases h; exact ⟨_, _, _, _, rfl, .inl (Nat.lt_succ_self _)⟩), by simp only [CV.R]⟩
            simp only [Instr.entryStore, Sem.run_bind, hobj, Result.andThen_ok, asInt, asIntOf, Sem.run_pure, hi1, hsm, hset]
        · exact trivial
      · exact trivial
    · exact trivial
  · exact trivial
end
end Go.Proofs.YtjhaikcokbmdbaaGreatDoor.Cx
