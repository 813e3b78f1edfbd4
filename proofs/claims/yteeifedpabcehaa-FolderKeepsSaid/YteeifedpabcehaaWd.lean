/-
  Closed runs: operations are sound.
-/
import Derived.Test.YteeifedpabcehaaWc
import Derived.RangeFuncLeaves
import Derived.RangeFuncCalls
import Derived.OrdersIn
namespace Go.Proofs.Yteeifedpabcehaa.Cx
open Go.RowKit Go.Proofs.Yteeifedpabcehaa.Bm

section
variable {P : Program} {ρ : Rho} {W w : World} {H : CH}
def bvalsN (l : List Nat) : List Value := l.map fun n : Nat => Value.int .u8 (n : Int)
theorem Rs_bytes : ∀ l : List Nat, CV.Rs ρ (mapL (fun n => CV.int .u8 (.ofNat n)) l) (bvalsN l)
  | [] => by show CV.Rs ρ [] []; simp [CV.Rs]
  | x :: xs => by
    show CV.Rs ρ (CV.int .u8 (.ofNat x) :: mapL (fun n => CV.int .u8 (.ofNat n)) xs) (.int .u8 (x : Int) :: bvalsN xs)
    simp only [CV.Rs]
    exact ⟨_, _, rfl, R_int .., Rs_bytes xs⟩
theorem isB_spec {e : Nat} (h : isB (mkTD P) e = true) : P.underlying e = some (.int .u8) := by
  unfold isB at h
  split at h
  · rename_i d hd
    exact u_int hd (isByte_spec h)
  · cases h
theorem bytesC_cons (c : CV) (cs : List CV) : bytesC (c :: cs) = match c, bytesC cs with
  | .int .u8 (.ofNat n), some l => bif Nat.blt n 256 then some (n :: l) else none
  | _, _ => none := rfl
theorem bytesC_spec : ∀ {cs : List CV} {l : List Nat} {vs : List Value}, bytesC cs = some l → CV.Rs ρ cs vs → (∀ c ∈ l, c < 256) ∧ vs = bvalsN l
  | [], l, vs, h, hr => by
    have h : some [] = some l := h
    cases h
    simp only [CV.Rs] at hr
    exact ⟨by simp, hr⟩
  | c :: cs, l, vs, h, hr => by
    simp only [CV.Rs] at hr
    obtain ⟨u, us, rfl, r, rs⟩ := hr
    rw [bytesC_cons] at h
    split at h
    · rename_i n l' hl
      cases hb : Nat.blt n 256 with
      | false => rw [hb] at h; cases h
      | true =>
        rw [hb] at h
        simp only [cond_true, Option.some.injEq] at h
        subst h
        have hn : n < 256 := by rw [← Nat.blt_eq]; exact hb
        obtain ⟨h1, rfl⟩ := bytesC_spec hl rs
        simp only [CV.R] at r
        subst r
        exact ⟨fun x hx => by rcases List.mem_cons.1 hx with rfl | hx; exact hn; exact h1 x hx, rfl⟩
    · cases h
/-- The cells of a slice's elements. -/
theorem rowCells_spec (hS : SR W ρ H w) {sz : Nat} {x : CV} {v : Value} {cs : List CV} (hx : x.R ρ v) (h : rowCells H sz x = some cs) :
    ∃ A n c vs, v = .slice A n c ∧ n ≤ c ∧ CV.Rs ρ cs vs ∧ vs.length = n * sz ∧ (∀ u ∈ vs, u.oneCell' = true) ∧ ∀ (j : Nat) u, vs[j]? = some u → sz ≠ 0 → ∃ b o, A = some ⟨b, o, none⟩ ∧ w.cell? ⟨b, o + j, none⟩ = some u := by
  unfold rowCells at h
  split at h
  · cases h
    simp only [CV.R] at hx
    subst hx
    exact ⟨none, 0, 0, [], rfl, Nat.le_refl _, by simp [CV.Rs], by simp, by simp, fun j u hj => by simp at hj⟩
  · rename_i hh s off n cap
    cases hb : Nat.beq s sz with
    | false => rw [hb] at h; cases h
    | true =>
      have := Nat.eq_of_beq_eq_true hb
      subst this
      rw [hb] at h
      simp only [cond_true] at h
      simp only [CV.R] at hx
      obtain ⟨b, m, o, c, q1, rfl, q2, q3, q4, q5, q6⟩ := hx
      split at h
      · rename_i ds hg
        cases hl : Nat.ble (off + n * s) (len ds) with
        | false => rw [hl] at h; cases h
        | true =>
          rw [hl] at h
          simp only [cond_true, Option.some.injEq] at h
          subst h
          have hl := Nat.le_of_ble_eq_true hl
          rw [len_eq] at hl
          obtain ⟨vs, c1, c2, c3⟩ := cell_at (off := off) (hS.p hg q1)
          have l1 := Rs_len _ _ c1
          rw [List.length_drop] at l1
          refine ⟨_, n, c, vs.take (n * s), rfl, q2, by rw [takeL_eq, dropL_eq]; exact Rs_take _ _ _ c1, by rw [List.length_take]; omega, fun u hu => c2 u (List.mem_of_mem_take hu), fun j u hj hs => ?_⟩
          rw [List.getElem?_take] at hj
          split at hj
          · rename_i hjn
            have hn : n ≠ 0 := fun e => by subst e; simp at hjn
            rw [q4 (by omega)]
            exact ⟨b, off, rfl, c3 j u hj⟩
          · cases hj
      · cases h
  · cases h
theorem u8s_bvals (l : List Nat) (h : ∀ c ∈ l, c < 256) : ∀ k, k < l.length → (bvalsN l)[k]? = some (.int .u8 (((u8s l).getD k 0).toNat : Int)) := fun k hk => by
  have hc : l[k] < 256 := h _ (List.getElem_mem hk)
  simp only [bvalsN, List.getElem?_map, List.getElem?_eq_getElem hk, Option.map_some]
  congr 2
  have : (u8s l).getD k 0 = UInt8.ofNat l[k] := by simp [u8s, List.getD, hk]
  rw [this, UInt8.toNat_ofNat', Nat.mod_eq_of_lt hc]
theorem convC_ok (hS : SR W ρ H w) (s d : Nat) (x : CV) {v : Value} (hx : x.R ρ v) : (convC (mkTD P) H s d x).wr P W ρ H w (convert s d v) := by
  unfold convC
  split
  · rename_i dd ds hd hs
    split
    · rename_i k j j' n hk1 hk2
      simp only [CV.R] at hx
      subst hx
      refine Out.rd_wr hS (rd_int (n := k.wrap n) ?_ (wrapN_eq ..))
      simp [convert, run_underlying (u_int hs hk2), run_underlying (u_int hd hk1), Conv.intToInt]
    · rename_i l hk1 hk2
      obtain ⟨hl, rfl⟩ := R_str' hx
      refine Out.rd_wr hS (show ∃ u, _ ∧ _ from ⟨_, ?_, R_str hl⟩)
      simp [convert, run_underlying (u_str hs hk2), run_underlying (u_str hd hk1)]
    · rename_i x' e hk1 hk2
      cases hb : isB (mkTD P) e with
      | false => exact trivial
      | true =>
        simp only [cond_true]
        split
        · rename_i cs hcs
          split
          · rename_i l hl
            obtain ⟨A, n, c, vs, rfl, h1, h2, h3, h4, h5⟩ := rowCells_spec hS hx hcs
            obtain ⟨h6, rfl⟩ := bytesC_spec hl h2
            have hn : n = (u8s l).length := by simp [bvalsN] at h3; simp [u8s]; omega
            subst hn
            refine Out.rd_wr hS (show ∃ u, _ ∧ _ from ⟨_, conv_bytes (P := P) (w := w) (u_sl hs hk2) (isB_spec hb) (u_str hd hk1) A (u8s l) c (fun k hk => ?_), R_str h6⟩)
            obtain ⟨b, o, e1, e2⟩ := h5 k _ (u8s_bvals l h6 k (by simpa [u8s] using hk)) (by simp)
            exact ⟨_, e1, rfl, e2⟩
          · exact trivial
        · exact trivial
    · rename_i e l hk1 hk2
      cases hb : (isB (mkTD P) e && Nat.ble (len l) 140737488355327) with
      | false => exact trivial
      | true =>
        rw [Bool.and_eq_true] at hb
        have hlen := Nat.le_of_ble_eq_true hb.2
        rw [len_eq] at hlen
        simp only [cond_true]
        obtain ⟨hl, rfl⟩ := R_str' hx
        have h0 : Bm.SR (fun _ => none) (fun _ _ => none) ⟨0, []⟩ w := ⟨fun _ _ _ h => (by cases h), fun _ _ _ h => (by cases h), fun p hp => by simp at hp, fun _ _ => rfl, by simp, fun p hp => by simp at hp, fun p hp => by simp at hp, fun p hp => by simp at hp⟩
        obtain ⟨w', s1, s2, s3, s4, s5⟩ := strToBytes (P := P) h0 e (u8s l) (by simp [u8s]; unfold maxLen; omega)
        obtain ⟨hv, r1, r2⟩ := s2.rel (0, .brow e (u8s l)) (by simp [AH.add])
        have hhv : hv = one1 w.heap.size (bytesCap w (u8s l) e) := by
          have : Bm.Rho.upd (fun _ => none) 0 (one1 w.heap.size (bytesCap w (u8s l) e)) 0 = some (one1 w.heap.size (bytesCap w (u8s l) e)) := Bm.Rho.upd_same _ _ _
          have r1' : Bm.Rho.upd (fun _ => none) 0 (one1 w.heap.size (bytesCap w (u8s l) e)) 0 = some hv := r1
          rw [this] at r1'
          injection r1' with r1'
          exact r1'.symm
        subst hhv
        simp only [AV.R] at s4
        obtain ⟨A', c', e1, e2, e3, _⟩ := s4
        cases e1
        rcases r2 with ⟨r2, _⟩ | ⟨b, arr, fr, r2, _, r3, r4, r5, r6, r7⟩
        · simp [one1] at r2
        · have hb0 : b = w.heap.size := by simp [one1] at r2; exact r2.symm
          subst hb0
          have hother : SR W ρ H w' := hS.other s5.os s5.tape s5.output s5.size fun k hk _ => s5.block k hk (fun h => h)
          have hlt : w.heap.size < w'.heap.size := (Array.getElem?_eq_some_iff.1 r3).1
          refine ⟨.slice (some ⟨w.heap.size, 0, none⟩) (u8s l).length (bytesCap w (u8s l) e), w', ρ.ext H.next (w.heap.size, bytesCap w (u8s l) e), ?_, Rho.le_ext (hS.fresh _ (Nat.le_refl _)), hS.fresh1 hother hlt (fun _ _ _ _ h => by cases h) ⟨arr, e, fr, bvalsN l, r3, r4, r5, Rs_bytes l, ?_, ?_⟩, ?_⟩
          · rw [← s1]
            simp [convert, run_underlying (u_str hs hk2), run_underlying (u_sl hd hk1), run_underlying (isB_spec hb.1)]
          · intro v hv
            simp only [bvalsN, List.mem_map] at hv
            obtain ⟨n, _, rfl⟩ := hv
            rfl
          · intro j u hj
            have hjl : j < l.length := by
              have := (List.getElem?_eq_some_iff.1 hj).1
              simpa [bvalsN] using this
            rw [u8s_bvals l hl j hjl] at hj
            rw [← hj]
            exact r7 j (by simpa [u8s] using hjl)
          · have : (u8s l).length = len l := by rw [len_eq]; simp [u8s]
            rw [this]
            exact R_newRow (by rw [← this]; exact e2) e3 (by omega) (fun x hx => by cases hx)
    · rename_i e e2 hh sz off n cap hk1 hk2
      split
      · rename_i cs hg
        cases hb : (Nat.beq s d && isB (mkTD P) e) with
        | false => exact trivial
        | true =>
          simp only [cond_true]
          rw [Bool.and_eq_true] at hb
          have hsd := Nat.eq_of_beq_eq_true hb.1
          subst hsd
          rw [hd] at hs
          injection hs with hs
          subst hs
          rw [hk1] at hk2
          injection hk2 with hk2
          subst hk2
          have hx' := hx
          simp only [CV.R] at hx
          obtain ⟨b, m, o, c, q1, rfl, q2, q3, q4, q5, q6⟩ := hx
          obtain ⟨arr, e0, fr, vs, g1, g2, g3, g4⟩ := hS.p hg q1
          have hm : (markStringish ⟨b, o, none⟩).run P w = _ := Bm.run_mark (P := P) g1
          refine ⟨.slice (some ⟨b, o, none⟩) n c, _, ρ, ?_, Rho.le.refl _, hS.put hg q1 (.cells arr e0 (if fr.1 = fr.2 then (arr.size, arr.size + 1) else (min fr.1 arr.size, max fr.2 (arr.size + 1)))) ⟨arr, e0, _, vs, putObj_same g1, g2, g3.mark, g4⟩ (fun _ _ _ _ h => by cases h) (fun _ _ _ h => by cases h), hx'⟩
          simp [convert, run_underlying (u_sl hd hk1), run_underlying (isB_spec hb.2), hm]
      · exact trivial
    · exact trivial
  · exact trivial
end
end Go.Proofs.Yteeifedpabcehaa.Cx

namespace Go.Proofs.Yteeifedpabcehaa.Cx
open Go.RowKit Go.Proofs.Yteeifedpabcehaa.Bm

section
variable {P : Program} {ρ : Rho} {W w : World} {H : CH}
theorem keyC_spec {kk : Option IntKind} {x : CV} {v : Value} {key : CK} (hx : x.R ρ v) (h : keyC kk x = some key) : v = key.mk.val ∧ key.mk.kind = kk ∧ key.ok := by
  unfold keyC at h
  split at h
  · rename_i l
    injection h with h
    subst h
    obtain ⟨h1, rfl⟩ := R_str' hx
    exact ⟨rfl, rfl, h1⟩
  · rename_i k n j
    cases he : eqK k j with
    | false => rw [he] at h; cases h
    | true =>
      rw [he] at h
      have := eqK_spec he
      subst this
      injection h with h
      subst h
      simp only [CV.R] at hx
      exact ⟨hx, rfl, trivial⟩
  · cases h
theorem mapT_spec {t : Nat} {kk : Option IntKind} {et : Nat} (h : mapT (mkTD P) t = some (kk, et)) : ∃ kt, P.underlying t = some (.map kt et) ∧ P.underlying kt = some (keyDesc kk) := by
  unfold mapT at h
  split at h
  · rename_i d hd
    split at h
    · rename_i kt e hk
      split at h
      · rename_i dk hdk
        split at h
        · rename_i k' hkk
          simp only [Option.some.injEq, Prod.mk.injEq] at h
          obtain ⟨rfl, rfl⟩ := h
          refine ⟨kt, u_mp hd hk, ?_⟩
          unfold keyK at hkk
          split at hkk
          · rename_i h2; injection hkk with hkk; subst hkk; exact u_str hdk h2
          · rename_i h2; injection hkk with hkk; subst hkk; exact u_int hdk h2
          · cases hkk
        · cases h
      · cases h
    · cases h
  · cases h
theorem eqKK_spec {a b : Option IntKind} (h : eqKK a b = true) : a = b := by
  unfold eqKK at h
  split at h
  · rfl
  · rw [eqK_spec h]
  · cases h
theorem ckeq_eq {a b : CK} (ha : a.ok) (hb : b.ok) : ckeq a b = decide (a.mk = b.mk) := by
  cases a <;> cases b <;> simp only [ckeq, CK.mk, reduceCtorEq, decide_false, CK.ok] at *
  · rename_i x y
    rw [lbeq_eq]
    apply decide_eq_decide.2
    simp only [MK.s.injEq]
    exact ⟨fun e => by rw [e], fun e => u8s_inj ha hb e⟩
  · rename_i k x j y
    rw [eqI_eq]
    cases he : eqK k j with
    | true =>
      have := eqK_spec he
      subst this
      simp
    | false =>
      have : k ≠ j := fun e => by subst e; cases k <;> cases he
      simp [this]
theorem mget_cons (p : CK × CV) (m : List (CK × CV)) (k : CK) : mget (p :: m) k = bif ckeq p.1 k then some p.2 else mget m k := rfl
theorem mput_cons (p : CK × CV) (m : List (CK × CV)) (k : CK) (x : CV) : mput (p :: m) k x = bif ckeq p.1 k then (p.1, x) :: m else p :: mput m k x := rfl
theorem mdel_cons (p : CK × CV) (m : List (CK × CV)) (k : CK) : mdel (p :: m) k = bif ckeq p.1 k then m else p :: mdel m k := rfl
theorem mfind_cons {X : Type} (p : MK × X) (m : List (MK × X)) (k : MK) : mfind (p :: m) k = if p.1 = k then some p.2 else mfind m k := by
  unfold mfind
  by_cases h : p.1 = k
  · rw [if_pos h, List.find?_cons_of_pos (by simpa using h)]; rfl
  · rw [if_neg h, List.find?_cons_of_neg (by simpa using h)]
theorem mget_toM {key : CK} (hk : key.ok) : ∀ (m : List (CK × CV)), (∀ q ∈ m, q.1.ok) → mfind (toM m) key.mk = mget m key
  | [], _ => rfl
  | p :: m, h => by
    have h1 := h p (List.mem_cons_self ..)
    have h2 := mget_toM hk m fun q hq => h q (List.mem_cons_of_mem _ hq)
    rw [mget_cons, ckeq_eq h1 hk, ← h2]
    show mfind ((p.1.mk, p.2) :: toM m) key.mk = _
    rw [mfind_cons]
    by_cases e : p.1.mk = key.mk <;> simp [e]
theorem mput_toM {key : CK} (hk : key.ok) (x : CV) : ∀ (m : List (CK × CV)), (∀ q ∈ m, q.1.ok) → toM (mput m key x) = Bm.mput (toM m) key.mk x ∧ ∀ q ∈ mput m key x, q.1.ok
  | [], _ => ⟨rfl, fun q hq => by
    have hq : q ∈ [(key, x)] := hq
    rw [List.mem_singleton] at hq
    subst hq
    exact hk⟩
  | p :: m, h => by
    have h1 := h p (List.mem_cons_self ..)
    obtain ⟨h2, h3⟩ := mput_toM hk x m fun q hq => h q (List.mem_cons_of_mem _ hq)
    rw [mput_cons, ckeq_eq h1 hk]
    show toM _ = Bm.mput ((p.1.mk, p.2) :: toM m) key.mk x ∧ _
    unfold Bm.mput
    by_cases e : p.1.mk = key.mk
    · simp only [e, decide_true, cond_true, if_true]
      refine ⟨by show (p.1.mk, x) :: toM m = _; rw [e], fun q hq => ?_⟩
      rcases List.mem_cons.1 hq with rfl | hq
      · exact h1
      · exact h q (List.mem_cons_of_mem _ hq)
    · simp only [e, decide_false, cond_false, if_false]
      refine ⟨by rw [← h2]; rfl, fun q hq => ?_⟩
      rcases List.mem_cons.1 hq with rfl | hq
      · exact h1
      · exact h3 q hq
theorem mdel_toM {key : CK} (hk : key.ok) : ∀ (m : List (CK × CV)), (∀ q ∈ m, q.1.ok) → ((toM m).map (·.1)).Nodup → toM (mdel m key) = Bm.mdel (toM m) key.mk ∧ ∀ q ∈ mdel m key, q ∈ m
  | [], _, _ => ⟨rfl, fun q hq => hq⟩
  | p :: m, h, hn => by
    have h1 := h p (List.mem_cons_self ..)
    have hn' : (p.1.mk :: (toM m).map (·.1)).Nodup := hn
    rw [List.nodup_cons] at hn'
    obtain ⟨h2, h3⟩ := mdel_toM hk m (fun q hq => h q (List.mem_cons_of_mem _ hq)) hn'.2
    rw [mdel_cons, ckeq_eq h1 hk]
    show toM _ = Bm.mdel ((p.1.mk, p.2) :: toM m) key.mk ∧ _
    by_cases e : p.1.mk = key.mk
    · simp only [e, decide_true, cond_true]
      refine ⟨?_, fun q hq => List.mem_cons_of_mem _ hq⟩
      unfold Bm.mdel
      rw [List.filter_cons_of_neg (by simp), List.filter_eq_self.2]
      intro q hq
      have : q.1 ≠ key.mk := fun e' => hn'.1 (by rw [e, ← e']; exact List.mem_map_of_mem hq)
      simpa using this
    · simp only [e, decide_false, cond_false]
      refine ⟨?_, fun q hq => ?_⟩
      · unfold Bm.mdel at h2 ⊢
        rw [List.filter_cons_of_pos (by simpa using e), ← h2]
        rfl
      · rcases List.mem_cons.1 hq with rfl | hq
        · exact List.mem_cons_self ..
        · exact List.mem_cons_of_mem _ (h3 q hq)
theorem R_okTup {ok b : Bool} {x : CV} {u : Value} (hx : x.R ρ u) : (okTup ok x b).R ρ (bif ok then .tuple #[u, .bool b] else u) := by
  cases ok with
  | false => exact hx
  | true => exact R_tup2 hx (R_bool b)
theorem lookC_ok (hS : SR W ρ H w) (t : Nat) (m k : CV) (ok : Bool) {v u : Value} (hm : m.R ρ v) (hk : k.R ρ u) : (lookC (mkTD P) H t m k ok).rd P ρ w (Instr.lookup t v u ok) := by
  unfold lookC
  split
  · rename_i kk et hmt
    obtain ⟨kt, hu, huk⟩ := mapT_spec hmt
    split
    · rename_i key z hkey hz
      obtain ⟨rfl, hkk, hok⟩ := keyC_spec hk hkey
      have hzr : (zeroValue et).run P w = .ok z w := by
        cases hd : mkTD P et with
        | none => rw [hd] at hz; cases hz
        | some d => rw [hd] at hz; exact r_zero hd hz w
      split
      · simp only [CV.R] at hm
        subst hm
        refine ⟨bif ok then .tuple #[z, .bool false] else z, ?_, R_okTup (R_ofV z)⟩
        have hck := run_checkKey (P := P) (w := w) true 9999 huk hkk
        have hfk := run_findKey (P := P) (w := w) huk (key := key.mk) (es := []) (r := none) rfl
        cases ok <;> simp [Instr.lookup, run_underlying hu, hck, hzr, hfk]
      · rename_i h
        simp only [CV.R] at hm
        obtain ⟨b, q, g1, rfl⟩ := hm
        split
        · rename_i kk' ver mm hg
          obtain ⟨es, clock, g2, g3, g4⟩ := hS.p hg g1
          cases he : eqKK kk kk' with
          | false => exact trivial
          | true =>
            have := eqKK_spec he
            subst this
            simp only [cond_true]
            rcases look_run (P := P) hu huk hkk hzr g2 g3 ok with ⟨q1, q2⟩ | ⟨x, y, q1, q2, q3⟩
            · rw [mget_toM hok _ g4] at q1
              rw [q1]
              exact ⟨_, q2, R_okTup (R_ofV z)⟩
            · rw [mget_toM hok _ g4] at q1
              rw [q1]
              exact ⟨_, q3, R_okTup q2⟩
        · exact trivial
      · exact trivial
    · exact trivial
  · exact trivial
theorem updC_ok (hS : SR W ρ H w) (t : Nat) (m k x : CV) {v u z : Value} (hm : m.R ρ v) (hk : k.R ρ u) (hx : x.R ρ z) : (updC (mkTD P) H t m k x).wu P W ρ H w (Instr.mapUpdate t v u z) := by
  unfold updC
  split
  · rename_i kk et hmt
    obtain ⟨kt, hu, huk⟩ := mapT_spec hmt
    split
    · rename_i key h hkey
      obtain ⟨rfl, hkk, hok⟩ := keyC_spec hk hkey
      simp only [CV.R] at hm
      obtain ⟨b, q, g1, rfl⟩ := hm
      split
      · rename_i kk' ver mm hg
        obtain ⟨es, clock, g2, g3, g4⟩ := hS.p hg g1
        cases he : eqKK kk kk' with
        | false => exact trivial
        | true =>
          have := eqKK_spec he
          subst this
          simp only [cond_true, ckK_eq]
          obtain ⟨es', clock', q1, q2⟩ := upd_run (P := P) hu huk hkk hx g2 g3
          obtain ⟨k1, k2⟩ := mput_toM hok x mm g4
          refine ⟨_, ρ, q1, Rho.le.refl _, hS.put hg g1 (.map es' clock') ⟨es', clock', putObj_same g2, by rw [k1]; exact q2, k2⟩ (fun _ _ _ _ h => by cases h) (fun _ _ _ h => by cases h; exact ⟨_, _, _, rfl, Nat.lt_succ_self _⟩), by simp only [CV.R]⟩
      · exact trivial
    · exact trivial
  · exact trivial
theorem R_unit : (CV.tup []).R ρ (.tuple #[]) := by
  simp only [CV.R, CV.Rs]
  exact ⟨[], rfl, rfl⟩
theorem delC_ok (hS : SR W ρ H w) (t : Nat) (m k : CV) {v u : Value} (hm : m.R ρ v) (hk : k.R ρ u) (ts : List TypeId) (ty : TypeId) : (delC (mkTD P) H t m k).wr P W ρ H w (Builtin.delete_ (t :: ts).toArray ty #[v, u]) := by
  unfold delC
  split
  · rename_i kk et hmt
    obtain ⟨kt, hu, huk⟩ := mapT_spec hmt
    split
    · rename_i key h hkey
      obtain ⟨rfl, hkk, hok⟩ := keyC_spec hk hkey
      simp only [CV.R] at hm
      obtain ⟨b, q, g1, rfl⟩ := hm
      split
      · rename_i kk' ver mm hg
        obtain ⟨es, clock, g2, g3, g4⟩ := hS.p hg g1
        cases he : eqKK kk kk' with
        | false => exact trivial
        | true =>
          have := eqKK_spec he
          subst this
          simp only [cond_true]
          obtain ⟨es', q1, q2⟩ := del_run (P := P) (ts := ts) (ty := ty) hu huk hkk g2 g3
          obtain ⟨k1, k2⟩ := mdel_toM hok mm g4 g3.keys
          refine ⟨_, _, ρ, q1, Rho.le.refl _, hS.put hg g1 (.map es' clock) ⟨es', clock, putObj_same g2, by rw [k1]; exact q2, fun q hq => g4 q (k2 q hq)⟩ (fun _ _ _ _ h => by cases h) (fun _ _ _ h => by cases h; exact ⟨_, _, _, rfl, Nat.lt_succ_self _⟩), R_unit⟩
      · exact trivial
    · rename_i key hkey
      obtain ⟨rfl, hkk, hok⟩ := keyC_spec hk hkey
      simp only [CV.R] at hm
      subst hm
      have hck := run_checkKey (P := P) (w := w) true 9999 huk hkk
      refine Out.rd_wr hS (o := .old (.tup []) .nop) ⟨.tuple #[], ?_, R_unit⟩
      simp [Builtin.delete_, run_underlying hu, hck]
    · exact trivial
  · exact trivial
theorem mmapO_ok (hS : SR W ρ H w) (t : Nat) : (mmapO (mkTD P) H t).wr P W ρ H w (Instr.makeMap t none) := by
  unfold mmapO
  split
  · rename_i kk et hmt
    obtain ⟨kt, hu, huk⟩ := mapT_spec hmt
    refine ⟨.map (some w.heap.size), w.alloc (.map #[] 0), ρ.ext H.next (w.heap.size, 0), ?_, Rho.le_ext (hS.fresh _ (Nat.le_refl _)), hS.fresh1 (hS.push _) (by simp) (fun _ _ _ _ h => by cases h) ⟨#[], 0, alloc_new _ _, ⟨by simp [toM], ⟨[], List.Perm.refl _, rfl⟩, by simp [toM], by simp, by simp⟩, by simp⟩, ?_⟩
    · simp [Instr.makeMap]
    · simp only [CV.R]
      exact ⟨_, _, Rho.ext_same .., rfl⟩
  · exact trivial
end
end Go.Proofs.Yteeifedpabcehaa.Cx

namespace Go.Proofs.Yteeifedpabcehaa.Cx
open Go.RowKit Go.Proofs.Yteeifedpabcehaa.Bm

section
variable {P : Program} {ρ : Rho} {W w : World} {H : CH}
theorem rangeC_ok (hS : SR W ρ H w) (t : Nat) (x : CV) {v : Value} (hx : x.R ρ v) : (rangeC (mkTD P) H t x).wr P W ρ H w (Instr.range t v) := by
  unfold rangeC
  split
  · rename_i d l hd
    split
    · rename_i hk
      obtain ⟨hl, rfl⟩ := R_str' hx
      refine ⟨.pointer (some ⟨w.heap.size, 0, none⟩), w.alloc (.stringIter ⟨(u8s l).toArray⟩ 0), ρ.ext H.next (w.heap.size, 0), ?_, Rho.le_ext (hS.fresh _ (Nat.le_refl _)), hS.fresh1 (hS.push _) (by simp) (fun _ _ _ _ h => by cases h) ⟨hl, alloc_new _ _⟩, R_newPtr⟩
      simp [Instr.range, run_underlying (u_str hd hk)]
    · exact trivial
  · rename_i d h hd
    split
    · rename_i k e kk ver m hk hg
      simp only [CV.R] at hx
      obtain ⟨b, q, g1, rfl⟩ := hx
      obtain ⟨es, clock, g2, g3, g4⟩ := hS.p hg g1
      have hobj := run_getObj (P := P) g2 (fun _ _ _ => by simp)
      have hle := Rho.le_ext (p := (w.heap.size, 0)) (hS.fresh _ (Nat.le_refl _))
      have hblt : b < w.heap.size := (Array.getElem?_eq_some_iff.1 g2).1
      have hleft : ∀ k ∈ mapL (·.1) m, ∃ p ∈ m, p.1 = k := fun k hk => by
        rw [mapL_eq] at hk
        obtain ⟨p, hp, rfl⟩ := List.mem_map.1 hk
        exact ⟨p, hp, rfl⟩
      refine ⟨.pointer (some ⟨w.heap.size, 0, none⟩), w.alloc (.mapIter (some b) clock #[] clock), ρ.ext H.next (w.heap.size, 0), ?_, hle, (hS.push _).bind ⟨b, q, clock, #[], clock, hle _ _ g1, alloc_new _ _, fun k hk => ?_, fun k hk => by cases hk⟩ hS.base.size (fun h d q hd hq => Nat.ne_of_lt (Chunk.R_lt (hS.p hd hq))) (fun hm ver' left last he => ?_), R_newPtr⟩
      · simp [Instr.range, run_underlying (u_mp hd hk), hobj]
      · obtain ⟨p, hp, rfl⟩ := hleft k hk
        exact g4 p hp
      · cases he
        intro kk' m' bm since seen st es' clock' q' v h1 h2
        rw [hg] at h1
        cases h1
        refine ⟨Nat.le_refl _, fun _ k1 k2 => ?_⟩
        rw [alloc_new] at k1
        cases k1
        rw [g1] at h2
        cases h2
        have : (w.alloc (.mapIter (some b) clock #[] clock)).heap[b]? = some (.map es clock) := (heap_alloc_old w _ hblt).trans g2
        rw [this] at k2
        cases k2
        obtain ⟨l, hp, hz⟩ := g3.zip
        refine ⟨rfl, rfl, fun e he => ⟨fun _ => ?_, fun _ => by simp⟩, fun k hk => ?_, ?_, fun k hk => by cases hk⟩
        · obtain ⟨p, hpm, hkey, _⟩ := hz.mem e (hp.mem_iff.2 he)
          obtain ⟨p', hp', rfl⟩ := List.mem_map.1 hpm
          exact ⟨p'.1, by rw [mapL_eq]; exact List.mem_map_of_mem hp', hkey⟩
        · obtain ⟨p, hp', rfl⟩ := hleft k hk
          obtain ⟨e, he, hkey, _⟩ := hz.mem' (p.1.mk, p.2) (List.mem_map_of_mem (f := fun p : CK × CV => (p.1.mk, p.2)) hp')
          exact ⟨e, hp.mem_iff.1 he, hkey⟩
        · rw [mapL_eq, List.map_map]
          have := g3.keys
          simp only [toM, List.map_map] at this
          exact this
    · exact trivial
  · exact trivial
theorem kdel_cons (p : CK) (m : List CK) (k : CK) : kdel (p :: m) k = bif ckeq p k then m else p :: kdel m k := rfl
theorem kdel_spec {key : CK} (hk : key.ok) : ∀ (m : List CK), (∀ q ∈ m, q.ok) → (m.map CK.mk).Nodup → (∀ q, q ∈ kdel m key ↔ q ∈ m ∧ q.mk ≠ key.mk) ∧ ((kdel m key).map CK.mk).Nodup
  | [], _, _ => ⟨fun q => by show q ∈ [] ↔ _; simp, by show ([] : List MK).Nodup; simp⟩
  | p :: m, h, hn => by
    have h1 := h p (List.mem_cons_self ..)
    rw [List.map_cons, List.nodup_cons] at hn
    obtain ⟨h2, h3⟩ := kdel_spec hk m (fun q hq => h q (List.mem_cons_of_mem _ hq)) hn.2
    rw [kdel_cons, ckeq_eq h1 hk]
    by_cases e : p.mk = key.mk
    · simp only [e, decide_true, cond_true]
      refine ⟨fun q => ⟨fun hq => ⟨List.mem_cons_of_mem _ hq, fun e' => hn.1 (by rw [e, ← e']; exact List.mem_map_of_mem hq)⟩, fun hq => ?_⟩, hn.2⟩
      rcases List.mem_cons.1 hq.1 with rfl | hq'
      · exact absurd e hq.2
      · exact hq'
    · simp only [e, decide_false, cond_false]
      refine ⟨fun q => ⟨fun hq => ?_, fun hq => ?_⟩, ?_⟩
      · rcases List.mem_cons.1 hq with rfl | hq'
        · exact ⟨List.mem_cons_self .., e⟩
        · exact ⟨List.mem_cons_of_mem _ ((h2 q).1 hq').1, ((h2 q).1 hq').2⟩
      · rcases List.mem_cons.1 hq.1 with rfl | hq'
        · exact List.mem_cons_self ..
        · exact List.mem_cons_of_mem _ ((h2 q).2 ⟨hq', hq.2⟩)
      · rw [List.map_cons, List.nodup_cons]
        refine ⟨fun hm => ?_, h3⟩
        obtain ⟨q, hq, e'⟩ := List.mem_map.1 hm
        exact hn.1 (by rw [← e']; exact List.mem_map_of_mem ((h2 q).1 hq).1)
theorem R_key {k : CK} (h : k.ok) : (keyV k).R ρ k.mk.val := by
  cases k with
  | s l => exact R_str h
  | i k n => exact R_int ..
theorem R_tup3 {x y z : CV} {u v t : Value} (hx : x.R ρ u) (hy : y.R ρ v) (hz : z.R ρ t) : (CV.tup [x, y, z]).R ρ (.tuple #[u, v, t]) := by
  simp only [CV.R, CV.Rs]
  exact ⟨[u, v, t], rfl, u, _, rfl, hx, v, _, rfl, hy, t, _, rfl, hz, rfl⟩
theorem R_tup1 {x : CV} {u : Value} (hx : x.R ρ u) : (CV.tup [x]).R ρ (.tuple #[u]) := by
  simp only [CV.R, CV.Rs]
  exact ⟨[u], rfl, u, _, rfl, hx, rfl⟩
/-- The value that a map holds at an entry's key. -/
theorem entry_val {kk : Option IntKind} {m : List (CK × CV)} {es : Array MapEntry} {clock : Nat} (h : MapR (CV.R ρ) kk (toM m) es clock) (hm : ∀ q ∈ m, q.1.ok) {e : MapEntry} (he : e ∈ es.toList) {k : CK} (hk : k.ok) (hek : e.key = k.mk.val) : ∃ v, mget m k = some v ∧ v.R ρ e.val := by
  obtain ⟨l, hp, hz⟩ := h.zip
  obtain ⟨p, hpm, hkey, hval⟩ := hz.mem e (hp.mem_iff.2 he)
  have e1 : p.1 = k.mk := MK.val_inj (hkey.symm.trans hek)
  have e2 : mfind (toM m) k.mk = some p.2 := by
    cases hf : mfind (toM m) k.mk with
    | none => exact absurd e1 (mfind_none hf p hpm)
    | some x =>
      have := nodup_key h.keys (mfind_some hf) hpm e1.symm
      rw [← this]
  rw [mget_toM hk m hm] at e2
  exact ⟨p.2, e2, hval⟩
theorem app_del (H : CH) (h : Nat) : Cmd.app (.del h) H = H.del h := rfl
theorem nextC_ok (hS : SR W ρ H w) (x : CV) (isS : Bool) (ty : TypeId) {v : Value} (hx : x.R ρ v) : (nextC H x isS).wr P W ρ H w (Instr.next v isS ty) := by
  unfold nextC
  split
  · rename_i h
    simp only [CV.R] at hx
    obtain ⟨b, q, g1, rfl⟩ := hx
    split
    · rename_i l pos hg
      obtain ⟨hl, g2⟩ := hS.p hg g1
      have hobj := run_getObj (P := P) g2 (fun _ _ _ => by simp)
      have hsz : (⟨(u8s l).toArray⟩ : ByteArray).size = l.length := by simp [ByteArray.size, u8s]
      have hobj : (getObj b).run P w = .ok (.stringIter ⟨(u8s l).toArray⟩ pos) w := hobj
      split
      · rename_i hn
        rw [nth_eq, List.getElem?_eq_none_iff] at hn
        have hlt : ¬ (pos < l.length) := by omega
        refine ⟨.tuple #[.bool false], w, ρ, ?_, Rho.le.refl _, hS.del h, R_tup1 (R_bool false)⟩
        simp [Instr.next, hobj, hsz, hlt]
      · rename_i c hn
        rw [nth_eq] at hn
        have hlt := (List.getElem?_eq_some_iff.1 hn).1
        have hc : c < 256 := hl c (List.mem_of_getElem? hn)
        have run : ∀ r n, Utf8.decode ⟨(u8s l).toArray⟩ pos = (r, n) → (Instr.next (.pointer (some ⟨b, 0, none⟩)) true ty).run P w = .ok (.tuple #[.bool true, .int .i64 (pos : Int), .int .i32 (r : Int)]) (putObj w b (.stringIter ⟨(u8s l).toArray⟩ (pos + n))) := fun r n hd => by
          have hset := run_setObj (P := P) (o' := .stringIter ⟨(u8s l).toArray⟩ (pos + n)) g2 (fun _ _ _ => by simp)
          simp [Instr.next, hobj, hsz, hlt, hd, hset, goInt]
        have fin : ∀ r n, Utf8.decode ⟨(u8s l).toArray⟩ pos = (r, n) → (Out.new (.tup [.bool true, .int .i64 (.ofNat pos), .int .i32 (.ofNat r)]) (.set h (.siter l (pos + n)))).wr P W ρ H w (Instr.next (.pointer (some ⟨b, 0, none⟩)) true ty) := fun r n hd =>
          ⟨_, _, ρ, run r n hd, Rho.le.refl _, hS.put hg g1 (.stringIter ⟨(u8s l).toArray⟩ (pos + n)) ⟨hl, putObj_same g2⟩ (fun _ _ _ _ h => by cases h) (fun _ _ _ h => by cases h), R_tup3 (R_bool true) (R_int ..) (R_int ..)⟩
        cases hb : Nat.blt c 128 with
        | true =>
          have hb : c < 128 := by rw [← Nat.blt_eq]; exact hb
          simp only [cond_true]
          refine fin c 1 ?_
          have hlt' : pos < (⟨(u8s l).toArray⟩ : ByteArray).size := by rw [hsz]; exact hlt
          have hcell : (⟨(u8s l).toArray⟩ : ByteArray)[pos]'hlt' = UInt8.ofNat c := by
            have e0 : (⟨(u8s l).toArray⟩ : ByteArray)[pos]'hlt' = (u8s l)[pos]'(by simpa [u8s] using hlt) := rfl
            rw [e0]
            have e1 : l[pos] = c := by rw [List.getElem?_eq_getElem hlt] at hn; injection hn
            simp [u8s, e1]
          have htn : ((⟨(u8s l).toArray⟩ : ByteArray)[pos]'hlt').toNat = c := by rw [hcell, UInt8.toNat_ofNat', Nat.mod_eq_of_lt hc]
          have := decode_ascii ⟨(u8s l).toArray⟩ pos hlt' (by rw [htn]; exact hb)
          rw [this, htn]
        | false =>
          simp only [cond_false]
          exact fin _ _ rfl
    · rename_i hm ver left last hg
      obtain ⟨bm, mm, since, seen, st, g2, g3, g4, g5⟩ := hS.p hg g1
      split
      · rename_i kk ver' m hgm
        cases hv : Nat.beq ver ver' with
        | false => exact trivial
        | true =>
          have hv := Nat.eq_of_beq_eq_true hv
          subst hv
          simp only [cond_true]
          obtain ⟨es, clock, k1, k2, k3⟩ := hS.p hgm g2
          obtain ⟨_, hit⟩ := hS.iter h _ hm _ ver left last kk m bm since seen st es clock ver hg hgm g1 g2
          obtain ⟨rfl, rfl, i3, i4, i5, i6⟩ := hit rfl g3 k1
          rcases next_run (P := P) ty g3 k1 (Nat.le_refl _) (fun e he => k2.clock e he) with ⟨e, w1, n1, n2, n3, n4⟩ | ⟨n1, n2⟩
          · obtain ⟨k, hkl, hek⟩ := (i3 e n1).1 n2
            have hkok := g4 k hkl
            obtain ⟨d1, d2⟩ := kdel_spec hkok left g4 i5
            have hS1 : SR W ρ H w1 := by rcases n3 with rfl | rfl; exact hS; exact hS.drew
            have hheap : w1.heap = w.heap := by rcases n3 with rfl | rfl <;> rfl
            obtain ⟨y, hy1, hy2⟩ := entry_val k2 k3 n1 hkok hek
            split
            · rename_i hl0
              cases hkl
            · refine ⟨.tup [.bool true, keyV k, (mget m k).getD .junk], .set h (.miter hm ver (kdel left k) (some k)), ?_, _, _, ρ, n4, Rho.le.refl _, hS1.put hg g1 (.mapIter (some bm) st (seen.push e.born) st) ⟨bm, mm, st, seen.push e.born, st, g2, ?_, fun k' hk' => g4 k' ((d1 k').1 hk').1, fun k' hk' => by cases hk'; exact hkok⟩ (fun hm' ver' left' last' he => ?_) (fun _ _ _ h => by cases h), ?_⟩
              · rw [mapL_eq]
                exact List.mem_map_of_mem (f := fun k => (CV.tup [.bool true, keyV k, (mget m k).getD .junk], Cmd.set h (.miter hm ver (kdel left k) (some k)))) hkl
              · exact putObj_same (w := w1) (o := .mapIter (some bm) st seen st) (by rw [hheap]; exact g3)
              · cases he
                intro kk' m' bm' since' seen' st' es' clock' q' v' e1 e2 e3
                rw [hgm] at e1
                cases e1
                refine ⟨Nat.le_refl _, fun _ e4 e5 => ?_⟩
                rw [g2] at e3
                cases e3
                rw [hheap] at e5
                have k1' : w.heap[bm]? = some (.map es st) := k1
                rw [k1'] at e5
                cases e5
                cases e4
                refine ⟨rfl, rfl, fun e' he' => ?_, fun k' hk' => i4 k' ((d1 k').1 hk').1, d2, fun k' hk' => ?_⟩
                · rw [Array.toList_push, List.mem_append, List.mem_singleton, not_or, i3 e' he']
                  constructor
                  · rintro ⟨⟨k', hk', hek'⟩, hne⟩
                    exact ⟨k', (d1 k').2 ⟨hk', fun e1 => hne (by rw [k2.key_inj he' n1 (by rw [hek', hek, e1])])⟩, hek'⟩
                  · rintro ⟨k', hk', hek'⟩
                    exact ⟨⟨k', ((d1 k').1 hk').1, hek'⟩, fun e1 => ((d1 k').1 hk').2 (MK.val_inj (by rw [← hek', ← hek, k2.born_inj he' n1 e1]))⟩
                · cases hk'
                  exact ⟨e, n1, by simp, hek⟩
              · rw [hy1]
                exact R_tup3 (R_bool true) (by rw [hek]; exact R_key hkok) hy2
          · split
            · exact ⟨_, _, ρ, n2, Rho.le.refl _, hS.del h, R_tup1 (R_bool false)⟩
            · rename_i hl0
              exfalso
              cases left with
              | nil => exact hl0 rfl
              | cons k left =>
                obtain ⟨e, he, hek⟩ := i4 k (List.mem_cons_self ..)
                exact (i3 e he).2 ⟨k, List.mem_cons_self .., hek⟩ (n1 e he)
      · exact trivial
    · exact trivial
  · exact trivial
theorem entryC_ok (hS : SR W ρ H w) (x : CV) {v : Value} (hx : x.R ρ v) : (entryC H x).rd P ρ w (Instr.entry v) := by
  unfold entryC
  split
  · rename_i h
    simp only [CV.R] at hx
    obtain ⟨b, q, g1, rfl⟩ := hx
    split
    · rename_i hm ver left k hg
      obtain ⟨bm, mm, since, seen, st, g2, g3, g4, g5⟩ := hS.p hg g1
      split
      · rename_i kk ver' m hgm
        cases hv : Nat.beq ver ver' with
        | false => exact trivial
        | true =>
          have hv := Nat.eq_of_beq_eq_true hv
          subst hv
          simp only [cond_true]
          obtain ⟨es, clock, k1, k2, k3⟩ := hS.p hgm g2
          obtain ⟨_, hit⟩ := hS.iter h _ hm _ ver left _ kk m bm since seen st es clock ver hg hgm g1 g2
          obtain ⟨rfl, rfl, i3, i4, i5, i6⟩ := hit rfl g3 k1
          obtain ⟨e, he, hb, hek⟩ := i6 k rfl
          have hkok := g5 k rfl
          obtain ⟨y, hy1, hy2⟩ := entry_val k2 k3 he hkok hek
          rw [hy1]
          refine ⟨.tuple #[e.key, e.val], ?_, R_tup2 (by rw [hek]; exact R_key hkok) hy2⟩
          have o1 := run_getObj (P := P) g3 (fun _ _ _ => by simp)
          have o2 := run_getObj (P := P) k1 (fun _ _ _ => by simp)
          have o3 : es.find? (fun e' => e'.born == e.born) = some e := by
            cases hf : es.find? (fun e' => e'.born == e.born) with
            | none =>
              have := Array.find?_eq_none.1 hf e (by simpa using he)
              simp at this
            | some e' =>
              have h1 := Array.find?_some hf
              have h2 := Array.mem_of_find?_eq_some hf
              exact congrArg some (k2.born_inj (by simpa using h2) he (by simpa using h1))
          simp [Instr.entry, o1, o2, hb, o3]
      · exact trivial
    · exact trivial
  · exact trivial
end
end Go.Proofs.Yteeifedpabcehaa.Cx

namespace Go.Proofs.Yteeifedpabcehaa.Cx
open Go.RowKit Go.Proofs.Yteeifedpabcehaa.Bm

section
variable {P : Program} {ρ : Rho} {W w : World} {H : CH}
/-- The cells that are taken from a value. -/
structure Src (P : Program) (w : World) (sz : Nat) (v : Value) (m : Nat) (news : List Value) : Prop where
  len : (Builtin.lenOf v).run P w = .ok m w
  first : ∀ k, k ≤ m → (Builtin.firstCells sz k v).run P w = .ok (news.take (k * sz)).toArray w
  firstD : ∀ k, k ≤ m → (Builtin.firstCells sz k v).run P w.drew = .ok (news.take (k * sz)).toArray w.drew
  many : news.length = m * sz
  one : ∀ u ∈ news, u.oneCell' = true
theorem first_at {sz : Nat} {A : Option Addr} {n c : Nat} {vs : List Value} (h3 : vs.length = n * sz) (h5 : ∀ (j : Nat) u, vs[j]? = some u → ∃ b o, A = some ⟨b, o, none⟩ ∧ w.cell? ⟨b, o + j, none⟩ = some u) (k : Nat) (hk : k ≤ n) :
    (Builtin.firstCells sz k (.slice A n c)).run P w = .ok (vs.take (k * sz)).toArray w := by
  have hle : k * sz ≤ vs.length := by rw [h3]; exact Nat.mul_le_mul_right _ hk
  cases A with
  | none =>
    have : vs = [] := by
      cases vs with
      | nil => rfl
      | cons u us => obtain ⟨_, _, e, _⟩ := h5 0 u rfl; cases e
    subst this
    simp [Builtin.firstCells]
  | some ad =>
    have hs : vs ≠ [] → ad.spot = none := fun hne => by
      cases vs with
      | nil => exact absurd rfl hne
      | cons u us => obtain ⟨_, _, e, _⟩ := h5 0 u rfl; injection e with e; rw [e]
    refine run_firstCells_some w sz k ad n c _ (by rw [List.length_take]; omega) fun j v hv => ?_
    rw [List.getElem?_take] at hv
    split at hv
    · obtain ⟨b, o, e, r⟩ := h5 j v hv
      injection e with e
      subst e
      rw [add_none]; exact r
    · cases hv
theorem srcC_spec (hS : SR W ρ H w) {sz t2 : Nat} (hsz : sz ≠ 0) {x : CV} {v : Value} {xs : List CV} {m : Nat} (hx : x.R ρ v) (h : srcC (mkTD P) H sz t2 x = some (xs, m)) : ∃ news, CV.Rs ρ xs news ∧ Src P w sz v m news := by
  unfold srcC at h
  split at h
  · rename_i l
    obtain ⟨hl, rfl⟩ := R_str' hx
    cases hb : Nat.beq sz 1 with
    | false => rw [hb] at h; cases h
    | true =>
      rw [hb] at h
      have := Nat.eq_of_beq_eq_true hb
      subst this
      simp only [cond_true, Option.some.injEq, Prod.mk.injEq] at h
      obtain ⟨rfl, rfl⟩ := h
      rw [len_eq]
      have hsz : (⟨(u8s l).toArray⟩ : ByteArray).size = l.length := by simp [ByteArray.size, u8s]
      have hb8 : bvalsN l = bvals (u8s l) := by
        simp only [bvalsN, bvals, u8s, List.map_map]
        refine List.map_congr_left fun c hc => ?_
        simp [Nat.mod_eq_of_lt (hl c hc)]
      have hf : ∀ (w : World) k, k ≤ l.length → (Builtin.firstCells 1 k (.string ⟨(u8s l).toArray⟩)).run P w = .ok ((bvalsN l).take (k * 1)).toArray w := fun w k hk => by
        have e : ((⟨(u8s l).toArray⟩ : ByteArray).extract 0 k).data = ((u8s l).take k).toArray := by
          rw [ByteArray.data_extract]
          simp
        simp only [Builtin.firstCells, Sem.run_pure, e]
        congr 1
        rw [hb8]
        simp [bvals]
      exact ⟨bvalsN l, Rs_bytes l, by simp [Builtin.lenOf, hsz], hf w, hf w.drew, by simp [bvalsN], fun u hu => by
        simp only [bvalsN, List.mem_map] at hu
        obtain ⟨n, _, rfl⟩ := hu
        rfl⟩
  · rename_i hh s off n c
    split at h
    · rename_i cs hcs
      simp only [Option.some.injEq, Prod.mk.injEq] at h
      obtain ⟨rfl, rfl⟩ := h
      obtain ⟨A, n', c', vs, rfl, h1, h2, h3, h4, h5⟩ := rowCells_spec hS hx hcs
      have hn : n' = n := by
        simp only [CV.R] at hx
        obtain ⟨_, _, _, _, _, e, _⟩ := hx
        injection e
      subst hn
      exact ⟨vs, h2, by simp [Builtin.lenOf], first_at h3 fun j u hu => h5 j u hu hsz, first_at h3 fun j u hu => by
        obtain ⟨b, o, e1, e2⟩ := h5 j u hu hsz
        exact ⟨b, o, e1, by simpa using e2⟩, h3, h4⟩
    · cases h
  · cases h
    simp only [CV.R] at hx
    subst hx
    exact ⟨[], by simp [CV.Rs], by simp [Builtin.lenOf], fun k hk => by simp [Builtin.firstCells], fun k hk => by simp [Builtin.firstCells], by simp, by simp⟩
  · cases h
theorem seqT_spec {t : Nat} (h : seqT (mkTD P) t = true) : ∃ u, P.underlying t = some u ∧ ((∃ e, u = .slice e) ∨ u = .string) := by
  unfold seqT at h
  split at h
  · rename_i d hd
    unfold isSeq at h
    split at h
    · rename_i e hk; exact ⟨_, u_sl hd hk, .inl ⟨_, rfl⟩⟩
    · rename_i hk; exact ⟨_, u_str hd hk, .inr rfl⟩
    · cases h
  · cases h
theorem zeroFits_spec {d : TD} (h : zeroFits d = true) : ∃ z, d.zero = some z ∧ z.cells.size = d.size := by
  unfold zeroFits at h
  split at h
  · rename_i zs hz
    have h := Nat.eq_of_beq_eq_true h
    obtain ⟨z, h1, rfl⟩ := zeroA_spec hz
    exact ⟨z, h1, by simpa using h⟩
  · cases h
theorem take_all {l : List Value} {k : Nat} (h : l.length = k) : l.take k = l := by rw [← h]; exact List.take_length
/-- Cells copied into a new block, with room behind them. -/
theorem SR.grown (hS : SR W ρ H w) {cs : List CV} {vs rest : List Value} (e : TypeId) (hr : CV.Rs ρ cs vs) (h1 : ∀ v ∈ vs, v.oneCell' = true) :
    SR W (ρ.ext H.next (w.heap.size, (vs ++ rest).length)) ((Cmd.add (.cells cs)).app H) (w.drew.alloc (.cells (vs ++ rest).toArray e)) := by
  have hle := Rho.le_ext (p := (w.heap.size, (vs ++ rest).length)) (hS.fresh H.next (Nat.le_refl _))
  refine hS.drew.fresh1 (hS.drew.push _) (by simp) (fun _ _ _ _ h => by cases h) ⟨(vs ++ rest).toArray, e, (0, 0), vs, alloc_new _ _, by simp, FrOk.zero _, CV.Rs_mono hle _ _ hr, h1, fun j u hj => ?_⟩
  have : j < vs.length := (List.getElem?_eq_some_iff.1 hj).1
  simp only [List.getElem?_toArray]
  rw [List.getElem?_append_left this]
  exact hj
theorem appC_ok (hS : SR W ρ H w) (t t2 ty : Nat) (s x : CV) {u v : Value} (hs : s.R ρ u) (hx : x.R ρ v) : (appC (mkTD P) H t t2 s x).wr P W ρ H w (Builtin.append_ #[t, t2] ty #[u, v]) := by
  unfold appC
  split
  · rename_i e de he
    obtain ⟨hu, hde⟩ := elemC_spec he
    obtain ⟨i, hi1, hi2, hi3, hi4⟩ := u_info hde
    cases hb : (seqT (mkTD P) t2 && zeroFits de && !(Nat.beq de.size 0)) with
    | false => exact trivial
    | true =>
      simp only [Bool.and_eq_true, Bool.not_eq_true'] at hb
      obtain ⟨⟨b1, b2⟩, b3⟩ := hb
      have hz0 : de.size ≠ 0 := fun e => by rw [e] at b3; simp at b3
      obtain ⟨u2, h2, hn⟩ := seqT_spec b1
      obtain ⟨z, hz1, hzc⟩ := zeroFits_spec b2
      simp only [cond_true]
      split
      · exact trivial
      · rename_i xs m hxs
        obtain ⟨news, hnr, hsrc⟩ := srcC_spec hS hz0 hx hxs
        have hfirst := hsrc.first m (Nat.le_refl _)
        have hfirstD := hsrc.firstD m (Nat.le_refl _)
        rw [take_all hsrc.many] at hfirst hfirstD
        -- a block that is grown
        have grow : ∀ (A : Option Addr) (n c : Nat) (old : List CV) (olds : List Value), u = .slice A n c → n ≤ c → c < n + m → (n + m) * de.bytes ≤ 140737488355328 → n + m ≤ 140737488355328 → CV.Rs ρ old olds → olds.length = n * de.size → (∀ v ∈ olds, v.oneCell' = true) →
            (Builtin.firstCells i.size n (.slice A n c)).run P w.drew = .ok olds.toArray w.drew →
            ∃ w' c' room, (Builtin.append_ #[t, t2] ty #[u, v]).run P w = .ok (.slice (some ⟨w.heap.size, 0, none⟩) (n + m) c') w' ∧ SR W (ρ.ext H.next (w.heap.size, room)) ((Cmd.add (.cells (catL old xs))).app H) w' ∧ (CV.row H.next de.size 0 (n + m) none).R (ρ.ext H.next (w.heap.size, room)) (.slice (some ⟨w.heap.size, 0, none⟩) (n + m) c') ∧
              (∀ H', SR W ρ H' w → H'.next = H.next → SR W (ρ.ext H.next (w.heap.size, room)) ((Cmd.add (.cells (catL old xs))).app H') w') := by
          intro A n c old olds hA hnc hg hbytes hmany hor hol ho1 hfo
          subst hA
          have hfit := growslice_fits (need := n + m) (old := c) (bytes := i.bytes) (by omega) (by rw [hi3]; exact hbytes)
          have hrun := app_grow (P := P) (ty := ty) hu h2 hn hi1 (by rw [hi4]; exact hz1) A n c v m olds.toArray news.toArray hsrc.len hfo (by rw [hi2]; exact hfirstD) (by omega) (by omega) hfit
          have hge := grownCap_ge w (n + m) c e
          have hle := grownCap_le_maxLen w (n + m) c e (by unfold maxLen; omega)
          have harr : (olds.toArray ++ news.toArray ++ Builtin.zeroCells z.cells (grownCap w (n + m) c e - (n + m))) = (olds ++ news ++ (Builtin.zeroCells z.cells (grownCap w (n + m) c e - (n + m))).toList).toArray := by
            apply Array.ext'
            simp
          rw [harr] at hrun
          have hroom : (olds ++ news ++ (Builtin.zeroCells z.cells (grownCap w (n + m) c e - (n + m))).toList).length = grownCap w (n + m) c e * de.size := by
            rw [List.length_append, List.length_append, hol, hsrc.many, Array.length_toList, size_zeroCells, hzc, ← Nat.add_mul, ← Nat.add_mul]
            congr 1
            omega
          have hall : ∀ v ∈ olds ++ news, v.oneCell' = true := fun v hv => (List.mem_append.1 hv).elim (ho1 v) (hsrc.one v)
          have key : ∀ H', SR W ρ H' w → H'.next = H.next → SR W (ρ.ext H.next (w.heap.size, grownCap w (n + m) c e * de.size)) ((Cmd.add (.cells (catL old xs))).app H') (w.drew.alloc (.cells (olds ++ news ++ (Builtin.zeroCells z.cells (grownCap w (n + m) c e - (n + m))).toList).toArray e)) := fun H' h' hn' => by
            have := h'.grown e (cs := catL old xs) (vs := olds ++ news) (rest := (Builtin.zeroCells z.cells (grownCap w (n + m) c e - (n + m))).toList) (by rw [catL_eq]; exact Rs_append hor hnr) hall
            rw [hroom, hn'] at this
            exact this
          exact ⟨_, _, grownCap w (n + m) c e * de.size, hrun, key H hS rfl, R_newRow hge hle (Nat.le_refl _) (fun x hx => by cases hx), key⟩
        -- room enough
        have room := app_room (P := P) (w := w) (ty := ty) hu h2 hn hi1
        split
        · simp only [CV.R] at hs
          subst hs
          cases hm0 : Nat.beq m 0 with
          | true =>
            have hm := Nat.eq_of_beq_eq_true hm0
            subst hm
            have hrun := room none 0 0 v 0 news.toArray hsrc.len (by rw [hi2]; exact hfirst) (Nat.le_refl _) w (fun a h => by cases h) (fun _ => rfl)
            exact ⟨_, _, ρ, hrun, Rho.le.refl _, hS, by simp only [CV.R]⟩
          | false =>
            have hm : m ≠ 0 := fun e => by rw [e] at hm0; simp at hm0
            cases hbb : (Nat.ble (m * de.bytes) 140737488355328 && Nat.ble m 140737488355328) with
            | false => exact trivial
            | true =>
              rw [Bool.and_eq_true] at hbb
              have c1 := Nat.le_of_ble_eq_true hbb.1
              have c2 := Nat.le_of_ble_eq_true hbb.2
              obtain ⟨w', c', rm, g1, g2, g3, _⟩ := grow none 0 0 [] [] rfl (Nat.le_refl _) (by omega) (by simpa using c1) (by omega) (by simp [CV.Rs]) (by simp) (by simp) (by simp [Builtin.firstCells])
              rw [Nat.zero_add] at g1 g3
              exact ⟨_, w', _, g1, Rho.le_ext (hS.fresh _ (Nat.le_refl _)), g2, g3⟩
        · rename_i h sz off n cap
          have hs' := hs
          simp only [CV.R] at hs
          obtain ⟨b, q, o, c, q1, rfl, q2, q3, q4, q5, q6⟩ := hs
          cases hm0 : Nat.beq m 0 with
          | true =>
            have hm := Nat.eq_of_beq_eq_true hm0
            subst hm
            have hnews : news = [] := List.eq_nil_of_length_eq_zero (by rw [hsrc.many]; simp)
            subst hnews
            have hrun := room (some ⟨b, o, none⟩) n c v 0 #[] hsrc.len (by rw [hi2]; exact hfirst) q2 w (fun a _ => rfl) (fun _ => rfl)
            exact ⟨_, _, ρ, hrun, Rho.le.refl _, hS, hs'⟩
          | false =>
            have hm : m ≠ 0 := fun e => by rw [e] at hm0; simp at hm0
            simp only [cond_false]
            cases hbb : (Nat.beq sz de.size && Nat.ble ((n + m) * de.bytes) 140737488355328 && Nat.ble (n + m) 140737488355328) with
            | false => exact trivial
            | true =>
              simp only [Bool.and_eq_true] at hbb
              have c0 := Nat.eq_of_beq_eq_true hbb.1.1
              subst c0
              have c1 := Nat.le_of_ble_eq_true hbb.1.2
              have c2 := Nat.le_of_ble_eq_true hbb.2
              simp only [cond_true]
              split
              · rename_i old hold
                obtain ⟨A, n', c', olds, e1, h1, hor, hol, ho1, ho5⟩ := rowCells_spec hS hs' hold
                injection e1 with e1 e2 e3
                subst e1 e2 e3
                have hfo : (Builtin.firstCells i.size n (.slice (some ⟨b, o, none⟩) n c)).run P w.drew = .ok olds.toArray w.drew := by
                  have := first_at (P := P) (w := w.drew) (sz := de.size) (A := some ⟨b, o, none⟩) (c := c) hol (fun j u hu => by
                    obtain ⟨b, o, e1, e2⟩ := ho5 j u hu hz0
                    exact ⟨b, o, e1, by simpa using e2⟩) n (Nat.le_refl _)
                  rw [take_all hol] at this
                  rw [hi2]
                  exact this
                have grow' := fun hg => grow (some ⟨b, o, none⟩) n c old olds rfl q2 hg c1 c2 hor hol ho1 hfo
                have place : ∀ cs', H.get h = some (.cells cs') → off + (n + m) * de.size ≤ cs'.length → n + m ≤ c → ∃ w', (Builtin.append_ #[t, t2] ty #[.slice (some ⟨b, o, none⟩) n c, v]).run P w = .ok (.slice (some ⟨b, o, none⟩) (n + m) c) w' ∧ SR W ρ ((Cmd.set h (.cells (overL cs' xs (off + n * de.size)))).app H) w' := fun cs' hg hl hr => by
                  have l2 := Rs_len _ _ hnr
                  obtain ⟨w', k1, k2⟩ := hS.over (P := P) (off := off + n * de.size) hg q1 hnr hsrc.one (by rw [← l2, hsrc.many, Nat.add_assoc, ← Nat.add_mul]; exact hl)
                  refine ⟨w', room (some ⟨b, o, none⟩) n c v m news.toArray hsrc.len (by rw [hi2]; exact hfirst) hr w' (fun a ha => ?_) (fun h => by cases h), k2⟩
                  injection ha with ha
                  subst ha
                  rw [add_none, hi2, q4 (by omega)]
                  exact k1
                split
                · cases hoff : Nat.beq off 0 with
                  | false => exact trivial
                  | true =>
                    have hoff := Nat.eq_of_beq_eq_true hoff
                    subst hoff
                    simp only [cond_true]
                    by_cases hr : n + m ≤ c
                    · -- in place, under a new handle
                      unfold rowCells at hold
                      simp only [Nat.beq_refl, cond_true] at hold
                      split at hold
                      · rename_i ds hg
                        cases hl : Nat.ble (0 + n * de.size) (len ds) with
                        | false => rw [hl] at hold; cases hold
                        | true =>
                          rw [hl] at hold
                          simp only [cond_true, Option.some.injEq, takeL_eq, dropL_eq, List.drop_zero] at hold
                          subst hold
                          have hl := Nat.le_of_ble_eq_true hl
                          rw [len_eq] at hl
                          obtain ⟨arr, e', fr, vs, g1, g2, g3, g4, g5, g6⟩ := hS.p hg q1
                          have g1 : w.heap[b]? = some (.cells arr e' fr) := g1
                          have g2 : arr.size = q := g2
                          have l1 := Rs_len _ _ g4
                          have hroom : n * de.size + news.length ≤ arr.size := by
                            rw [hsrc.many, ← Nat.add_mul, g2]
                            have := Nat.mul_le_mul_right de.size hr
                            omega
                          have hvs : vs.length ≤ arr.size := by
                            rcases Nat.lt_or_ge arr.size vs.length with h | h
                            · have := g6 arr.size _ (List.getElem?_eq_getElem h)
                              simp at this
                            · exact h
                          have hst := run_stores (P := P) (b := b) (e := e') (fr := fr) (n * de.size) news 0 arr w g1 g3 (by simpa using hroom) hsrc.one
                          rw [Nat.add_zero] at hst
                          have hnew := hS.new _ _ _ hg q1
                          have hne : ∀ k, k ≠ b → (putObj w b (.cells (layArr arr (n * de.size) news) e' fr)).heap[k]? = w.heap[k]? := fun k hk => by simp [putObj, Array.getElem?_setIfInBounds_ne (Ne.symm hk)]
                          have hfree : ∀ h' d q', (H.del h).get h' = some d → ρ h' = some q' → q'.1 ≠ b := fun h' d q' hd hq' => by
                            rw [get_del] at hd
                            split at hd
                            · cases hd
                            · rename_i hh
                              exact hS.apart _ _ _ _ _ _ hd hg hh hq' q1
                          have hle := Rho.le_ext (p := (b, q)) (hS.fresh H.next (Nat.le_refl _))
                          have hS2 : SR W ρ (H.del h) (putObj w b (.cells (layArr arr (n * de.size) news) e' fr)) := (hS.del h).other rfl rfl rfl (by simp [putObj]) fun k hk hor => hne k (by
                            rcases hor with h0 | ⟨h', d, p, k1, k2, rfl⟩
                            · intro e; subst e; simp only at hnew; omega
                            · exact hfree h' d p k1 k2)
                          have hsz : (vs.take (n * de.size)).length = n * de.size := by rw [List.length_take]; omega
                          refine ⟨.slice (some ⟨b, o, none⟩) (n + m) c, putObj w b (.cells (layArr arr (n * de.size) news) e' fr), ρ.ext H.next (b, q), room (some ⟨b, o, none⟩) n c v m news.toArray hsrc.len (by rw [hi2]; exact hfirst) hr _ (fun a ha => ?_) (fun h => by cases h), hle, ?_, ?_⟩
                          · injection ha with ha
                            subst ha
                            rw [add_none, hi2, q4 (by omega), Nat.zero_add]
                            exact hst
                          · rw [app_swap]
                            refine hS2.bind (p := (b, q)) ⟨_, e', fr, vs.take (n * de.size) ++ news, putObj_same g1, by rw [layArr_size, g2], by rw [layArr_size]; exact g3, ?_, ?_, fun j u hj => ?_⟩ hnew (fun h' d q' k1 k2 => hfree h' d q' k1 k2) (fun _ _ _ _ h => by cases h)
                            · rw [catL_eq]
                              exact CV.Rs_mono hle _ _ (Rs_append (Rs_take _ _ _ g4) hnr)
                            · intro v hv
                              exact (List.mem_append.1 hv).elim (fun hv => g5 v (List.mem_of_mem_take hv)) (hsrc.one v)
                            · rw [layV_arr hroom, layV_get _ _ _ _ (by simpa using hroom)]
                              rw [List.getElem?_append, hsz] at hj
                              split at hj
                              · rename_i hlt
                                rw [if_neg (by omega)]
                                rw [List.getElem?_take_of_lt hlt] at hj
                                have := g6 j u hj
                                simpa using this
                              · rename_i hge
                                have : j - n * de.size < news.length := (List.getElem?_eq_some_iff.1 hj).1
                                rw [if_pos (by omega)]
                                exact hj
                          · simp only [CV.R]
                            exact ⟨b, q, o, c, Rho.ext_same .., rfl, hr, q3, q4, q5, fun x hx => by cases hx⟩
                      · cases hold
                    · obtain ⟨w', c', rm, g1, _, g3, g4⟩ := grow' (by omega)
                      exact ⟨_, w', _, g1, Rho.le_ext (hS.fresh _ (Nat.le_refl _)), by rw [app_swap]; exact g4 (H.del h) (hS.del h) rfl, g3⟩
                · rename_i c' 
                  have := q6 _ rfl
                  subst this
                  cases hr : Nat.ble (n + m) c with
                  | true =>
                    have hr := Nat.le_of_ble_eq_true hr
                    simp only [cond_true]
                    split
                    · rename_i cs' hg
                      cases hl : Nat.ble (off + (n + m) * de.size) (len cs') with
                      | false => exact trivial
                      | true =>
                        have hl := Nat.le_of_ble_eq_true hl
                        rw [len_eq] at hl
                        obtain ⟨w', k1, k2⟩ := place cs' hg hl hr
                        refine ⟨_, w', ρ, k1, Rho.le.refl _, k2, ?_⟩
                        simp only [CV.R]
                        exact ⟨b, q, o, c, q1, rfl, hr, q3, q4, q5, q6⟩
                    · exact trivial
                  | false =>
                    have hr : ¬ (n + m ≤ c) := fun h => by rw [Nat.ble_eq_true_of_le h] at hr; cases hr
                    simp only [cond_false]
                    obtain ⟨w', c', rm, g1, g2, g3, _⟩ := grow' (by omega)
                    exact ⟨_, w', _, g1, Rho.le_ext (hS.fresh _ (Nat.le_refl _)), g2, g3⟩
              · exact trivial
        · exact trivial
  · exact trivial
end
end Go.Proofs.Yteeifedpabcehaa.Cx

namespace Go.Proofs.Yteeifedpabcehaa.Cx
open Go.RowKit Go.Proofs.Yteeifedpabcehaa.Bm

section
variable {P : Program} {ρ : Rho} {W w : World} {H : CH}
theorem copyC_ok (hS : SR W ρ H w) (t : Nat) (d x : CV) {u v : Value} (hd : d.R ρ u) (hx : x.R ρ v) (ts : List TypeId) (ty : TypeId) : (copyC (mkTD P) H t d x).wr P W ρ H w (Builtin.copy_ (t :: ts).toArray ty #[u, v]) := by
  unfold copyC
  split
  · rename_i e de he
    obtain ⟨hu, hde⟩ := elemC_spec he
    have hs := r_size hde w
    cases hb : Nat.beq de.size 0 with
    | true => exact trivial
    | false =>
      have hz0 : de.size ≠ 0 := fun e => by rw [e] at hb; simp at hb
      simp only [cond_false]
      split
      · rename_i s hsrc
        obtain ⟨xs, m⟩ := s
        obtain ⟨news, hnr, hn⟩ := srcC_spec hS hz0 hx hsrc
        simp only [CV.R] at hd
        subst hd
        refine ⟨.int .i64 0, w, ρ, ?_, Rho.le.refl _, hS, R_int ..⟩
        have := hn.first 0 (Nat.zero_le _)
        simp [Builtin.copy_, run_underlying hu, hn.len, hs, this, goInt]
      · rename_i h sz off n cap xs m hsrc
        obtain ⟨news, hnr, hn⟩ := srcC_spec hS hz0 hx hsrc
        cases hsz : Nat.beq sz de.size with
        | false => exact trivial
        | true =>
          have hsz := Nat.eq_of_beq_eq_true hsz
          subst hsz
          simp only [cond_true]
          simp only [CV.R] at hd
          obtain ⟨b, q, o, c, q1, rfl, q2, q3, q4, q5, q6⟩ := hd
          split
          · rename_i cs hg
            cases hl : Nat.ble (off + n * de.size) (len cs) with
            | false => exact trivial
            | true =>
              have hl := Nat.le_of_ble_eq_true hl
              rw [len_eq] at hl
              simp only [cond_true]
              have hk : Nat.min m n ≤ m := Nat.min_le_left _ _
              have hk2 : Nat.min m n ≤ n := Nat.min_le_right _ _
              have hf := hn.first _ hk
              have hlen : (takeL xs (Nat.min m n * de.size)).length = Nat.min m n * de.size := by
                have := Rs_len _ _ hnr
                rw [takeL_eq, List.length_take, ← this, hn.many]
                exact Nat.min_eq_left (Nat.mul_le_mul_right _ hk)
              have hmul : Nat.min m n * de.size ≤ n * de.size := Nat.mul_le_mul_right _ hk2
              obtain ⟨w', k1, k2⟩ := hS.over (P := P) (off := off) hg q1 (xs := takeL xs (Nat.min m n * de.size)) (us := news.take (Nat.min m n * de.size)) (by rw [takeL_eq]; exact Rs_take _ _ _ hnr) (fun v hv => hn.one v (List.mem_of_mem_take hv)) (by rw [hlen]; omega)
              refine ⟨.int .i64 (Nat.min m n : Int), w', ρ, ?_, Rho.le.refl _, k2, R_int ..⟩
              have hst : (storeCells ⟨b, o, none⟩ (news.take (Nat.min m n * de.size))).run P w = .ok () w' := by
                by_cases hn0 : n = 0
                · subst hn0
                  have e0 : Nat.min m 0 = 0 := Nat.min_eq_right (Nat.zero_le _)
                  rw [e0, Nat.zero_mul, List.take_zero] at k1 ⊢
                  exact k1
                · rw [q4 (by omega)]
                  exact k1
              simp [Builtin.copy_, run_underlying hu, hn.len, hs, hf, hst, goInt]
          · exact trivial
      · exact trivial
  · exact trivial
theorem clearC_ok (hS : SR W ρ H w) (t : Nat) (x : CV) {v : Value} (hx : x.R ρ v) (ts : List TypeId) (ty : TypeId) : (clearC (mkTD P) H t x).wr P W ρ H w (Builtin.clear_ (t :: ts).toArray ty #[v]) := by
  unfold clearC
  split
  · simp only [CV.R] at hx
    subst hx
    split
    · rename_i d hd
      obtain ⟨u, i, h1, _⟩ := mkTD_spec hd
      refine ⟨.tuple #[], w, ρ, ?_, Rho.le.refl _, hS, R_unit⟩
      simp [Builtin.clear_, run_underlying h1]
    · exact trivial
  · simp only [CV.R] at hx
    subst hx
    split
    · rename_i d hd
      obtain ⟨u, i, h1, _⟩ := mkTD_spec hd
      refine ⟨.tuple #[], w, ρ, ?_, Rho.le.refl _, hS, R_unit⟩
      simp [Builtin.clear_, run_underlying h1]
    · exact trivial
  · rename_i h
    split
    · rename_i mt kk ver m hmt hg
      obtain ⟨kk', et⟩ := mt
      obtain ⟨kt, hu, huk⟩ := mapT_spec hmt
      simp only [CV.R] at hx
      obtain ⟨b, q, g1, rfl⟩ := hx
      obtain ⟨es, clock, g2, g3, g4⟩ := hS.p hg g1
      have hobj := run_getObj (P := P) g2 (fun _ _ _ => by simp)
      have hset := run_setObj (P := P) (o' := .map #[] clock) g2 (fun _ _ _ => by simp)
      refine ⟨.tuple #[], _, ρ, ?_, Rho.le.refl _, hS.put hg g1 (.map #[] clock) ⟨#[], clock, putObj_same g2, ⟨by simp [toM], ⟨[], List.Perm.refl _, rfl⟩, by simp [toM], by simp, by simp⟩, by simp⟩ (fun _ _ _ _ h => by cases h) (fun _ _ _ h => by cases h; exact ⟨_, _, _, rfl, Nat.lt_succ_self _⟩), R_unit⟩
      simp [Builtin.clear_, run_underlying hu, hobj, hset]
    · exact trivial
  · rename_i h sz off n cap
    split
    · rename_i e de he
      obtain ⟨hu, hde⟩ := elemC_spec he
      split
      · rename_i z cs hz hg
        cases hb : (allC z && Nat.beq sz de.size && !(Nat.beq sz 0) && Nat.beq (len z) de.size && Nat.ble (off + n * sz) (len cs)) with
        | false => exact trivial
        | true =>
          simp only [Bool.and_eq_true, Bool.not_eq_true'] at hb
          obtain ⟨⟨⟨⟨b1, b2⟩, b3⟩, b4⟩, b5⟩ := hb
          have c2 := Nat.eq_of_beq_eq_true b2
          have c4 := Nat.eq_of_beq_eq_true b4
          have c5 := Nat.le_of_ble_eq_true b5
          rw [len_eq] at c4 c5
          subst c2
          have hz0 : de.size ≠ 0 := fun e => by rw [e] at b3; simp at b3
          simp only [cond_true]
          simp only [CV.R] at hx
          obtain ⟨b, q, o, c, q1, rfl, q2, q3, q4, q5, q6⟩ := hx
          obtain ⟨zv, hz1, hzr⟩ := zeroC_spec hz
          have hzr' := r_zero hde hz1 w
          have hzc : zv.cells.size = de.size := by have := Rs_len _ _ (hzr ρ); simp at this; omega
          have hrl : (repL z n).length = n * de.size := by
            have := Rs_len _ _ (repL_ok (hzr ρ) n)
            rw [← this, repV_len]
            simp [hzc]
          obtain ⟨w', k1, k2⟩ := hS.over (P := P) (off := off) hg q1 (repL_ok (hzr ρ) n) (fun v hv => allC_ok b1 (hzr ρ) v (repV_mem n v hv)) (by rw [hrl]; omega)
          refine ⟨.tuple #[], w', ρ, ?_, Rho.le.refl _, k2, R_unit⟩
          by_cases hn0 : n = 0
          · subst hn0
            have : (storeCells ⟨b, off, none⟩ (repV zv.cells.toList 0)).run P w = .ok () w := by simp [repV, storeCells]
            rw [this] at k1
            cases k1
            simp [Builtin.clear_, run_underlying hu]
          · rw [q4 (by omega)]
            have hzz : (Builtin.zeroCells zv.cells n).toList = repV zv.cells.toList n := by
              show ((Array.range (n * zv.cells.size)).map (fun i => zv.cells[i % zv.cells.size]!)).toList = _
              rw [zeros_eq zv.cells n (by omega)]
            have hne : n ≠ 0 := hn0
            simp [Builtin.clear_, run_underlying hu, hne, hzr', hzz, k1]
      · exact trivial
    · exact trivial
  · exact trivial
end
end Go.Proofs.Yteeifedpabcehaa.Cx

namespace Go.Proofs.Yteeifedpabcehaa.Cx
open Go.RowKit Go.Proofs.Yteeifedpabcehaa.Bm

section
variable {P : Program} {ρ : Rho} {W w : World} {H : CH}
def Did (P : Program) (s : Sem Next) (w : World) (u : Value) (w' : World) : Prop := s.run P w = .ok (.value u) w' ∨ s.run P w = .ok .skip w' ∧ u = undef
/-- What an operation comes to, in the model's words. -/
def Out.ok (P : Program) (W : World) (ρ : Rho) (H : CH) (w : World) (s : Sem Next) : Out → Prop
  | .no _ => True
  | .old v c => ∃ u w' ρ', Did P s w u w' ∧ Rho.le ρ ρ' ∧ SR W ρ' (c.app H) w' ∧ v.R ρ' u
  | .new v c => ∃ u w' ρ', Did P s w u w' ∧ Rho.le ρ ρ' ∧ SR W ρ' (c.app H) w' ∧ v.R ρ' u
  | .many l => ∃ v c, (v, c) ∈ l ∧ ∃ u w' ρ', Did P s w u w' ∧ Rho.le ρ ρ' ∧ SR W ρ' (c.app H) w' ∧ v.R ρ' u
  | .call f args => ∃ as : List Value, s.run P w = (callFunc f as.toArray).run P w ∧ CV.Rs ρ args as
  | .rnd h args => ∃ (b m : Nat) (as : List Value), ρ h = some (b, m) ∧ s.run P w = (Instr.yield b as.toArray).run P w ∧ CV.Rs ρ args as
  | .pan v => ∃ u, s.run P w = .halt (.panic u) w ∧ v.R ρ u
theorem Did.val {s : Sem Value} {u : Value} {w' : World} (h : s.run P w = .ok u w') : Did P (do pure (.value (← s))) w u w' := .inl (by simp [h])
theorem Did.unit {s : Sem Unit} {w' : World} (h : s.run P w = .ok () w') : Did P (do s; pure .skip) w undef w' := .inr ⟨by simp [h], rfl⟩
theorem Out.wr_ok {s : Sem Value} {o : Out} (h : o.wr P W ρ H w s) : o.ok P W ρ H w (do pure (.value (← s))) := by
  unfold Out.wr at h
  split at h
  · exact trivial
  · obtain ⟨u, w', ρ', h1, h2⟩ := h; exact ⟨u, w', ρ', .val h1, h2⟩
  · obtain ⟨u, w', ρ', h1, h2⟩ := h; exact ⟨u, w', ρ', .val h1, h2⟩
  · obtain ⟨v, c, h0, u, w', ρ', h1, h2⟩ := h; exact ⟨v, c, h0, u, w', ρ', .val h1, h2⟩
  · exact h.elim
theorem Out.rd_ok (hS : SR W ρ H w) {s : Sem Value} {o : Out} (h : o.rd P ρ w s) : o.ok P W ρ H w (do pure (.value (← s))) := Out.wr_ok (Out.rd_wr hS h)
theorem Out.wu_ok {s : Sem Unit} {o : Out} (h : o.wu P W ρ H w s) : o.ok P W ρ H w (do s; pure .skip) := by
  unfold Out.wu at h
  split at h
  · exact trivial
  · obtain ⟨w', ρ', h1, h2⟩ := h; exact ⟨_, w', ρ', .unit h1, h2⟩
  · exact h.elim
theorem Out.ok_eq {s s' : Sem Next} {o : Out} (h : o.ok P W ρ H w s) (e : s'.run P w = s.run P w) : o.ok P W ρ H w s' := by
  have hd : ∀ u w', Did P s w u w' → Did P s' w u w' := fun u w' h => by unfold Did at h ⊢; rw [e]; exact h
  unfold Out.ok at h ⊢
  split at h
  · exact trivial
  · obtain ⟨u, w', ρ', h1, h2⟩ := h; exact ⟨u, w', ρ', hd _ _ h1, h2⟩
  · obtain ⟨u, w', ρ', h1, h2⟩ := h; exact ⟨u, w', ρ', hd _ _ h1, h2⟩
  · obtain ⟨v, c, h0, u, w', ρ', h1, h2⟩ := h; exact ⟨v, c, h0, u, w', ρ', hd _ _ h1, h2⟩
  · rw [e]; exact h
  · rw [e]; exact h
  · rw [e]; exact h
theorem here (hS : SR W ρ H w) {s : Sem Next} {u : Value} {v : CV} (h : s.run P w = .ok (.value u) w) (hv : v.R ρ u) : (Out.old v .nop).ok P W ρ H w s := ⟨u, w, ρ, .inl h, Rho.le.refl _, hS, hv⟩
theorem capC_ok (t : Nat) (x : CV) {v : Value} (hx : x.R ρ v) (ts : List TypeId) (ty : TypeId) : (capC (mkTD P) t x).rd P ρ w (Builtin.cap_ (t :: ts).toArray ty #[v]) := by
  unfold capC
  split
  · rename_i e h sz off n c he
    obtain ⟨hu, _⟩ := elemC_spec (e := e.1) (de := e.2) he
    simp only [CV.R] at hx
    obtain ⟨b, q, o, c', q1, rfl, q2, q3, q4, q5, q6⟩ := hx
    have := q6 c rfl
    subst this
    exact rd_int (n := (c' : Int)) (by simp [Builtin.cap_, run_underlying hu, goInt]) rfl
  · rename_i e he
    obtain ⟨hu, _⟩ := elemC_spec (e := e.1) (de := e.2) he
    simp only [CV.R] at hx
    subst hx
    exact rd_int (n := 0) (by simp [Builtin.cap_, run_underlying hu, goInt]) rfl
  · exact trivial
theorem xorN_u (k : IntKind) (m : Nat) (hs : k.signed = false) (h : m < pw k) : (Int.ofNat (pw k - 1 - m) : Int) = bitK .xor k k.max (.ofNat m) := by
  have key : ∀ (n : Nat), pw k = 2 ^ n → n = k.bits → BitVec.ofInt k.bits k.max = BitVec.allOnes k.bits → lim k = pw k → (Int.ofNat (pw k - 1 - m) : Int) = bitK .xor k k.max (.ofNat m) := by
    intro n hp hn ha hl
    subst hn
    have e : (BitVec.ofInt k.bits k.max ^^^ BitVec.ofInt k.bits (Int.ofNat m)).toNat = pw k - 1 - m := by
      rw [ha, BitVec.allOnes_xor, BitVec.toNat_not]
      have : (BitVec.ofInt k.bits (Int.ofNat m)).toNat = m := ofInt_nat (by rw [← hp]; exact h)
      rw [this, hp]
    simp only [bitK, e]
    rw [wrap_lim k (by rw [hl]; omega)]
    rfl
  cases k <;> first | (cases hs; done) | skip
  · exact key 8 rfl rfl (by decide) rfl
  · exact key 16 rfl rfl (by decide) rfl
  · exact key 32 rfl rfl (by decide) rfl
  · exact key 64 rfl rfl (by decide) rfl
theorem xorN_eq (k : IntKind) (n : Int) : xorN k n = bitK .xor k (if k.signed then -1 else k.max) n := by
  unfold xorN
  split
  · rename_i m
    cases hb : (!k.signed && Nat.blt m (pw k)) with
    | false => rfl
    | true =>
      simp only [Bool.and_eq_true, Bool.not_eq_true', Nat.blt_eq] at hb
      simp only [cond_true, hb.1, Bool.false_eq_true, if_false]
      exact xorN_u k m hb.1 hb.2
  · rfl
theorem unO_ok (op : UnOp) (x : CV) {v : Value} (hx : x.R ρ v) : (unO op x).rd P ρ w (Op.unary op v) := by
  cases op
  · show (negO x).rd P ρ w _
    unfold negO
    split
    · rename_i k n
      simp only [CV.R] at hx
      subst hx
      exact rd_int (n := k.wrap (0 - n)) (by simp [Op.unary, Op.intArith]) (wrapN_eq ..)
    · exact trivial
  all_goals first | exact trivial | skip
  · show (xorO x).rd P ρ w _
    unfold xorO
    split
    · rename_i k n
      simp only [CV.R] at hx
      subst hx
      exact rd_int (n := bitK .xor k (if k.signed then -1 else k.max) n) (by simp [Op.unary, Op.intBits, bitK]) (xorN_eq ..)
    · exact trivial
  · show (notO x).rd P ρ w _
    unfold notO
    split
    · rename_i b
      simp only [CV.R] at hx
      subst hx
      exact rd_bool (b := !b) (by simp [Op.unary]) rfl
    · exact trivial
theorem methC_ok {t : Nat} {name : String} {f : Nat} (h : methC P t name = some f) (v : Value) (args : Array Value) : (callMethod (.iface t v) name args).run P w = (callFunc f (#[v] ++ args)).run P w := by
  unfold methC at h
  split at h
  · rename_i i hi
    split at h
    · rename_i m hm
      have fu : ∃ n, P.types.size + Made.depth = n + 1 := ⟨P.types.size + (Made.depth - 1), rfl⟩
      obtain ⟨n, hn⟩ := fu
      have hti : (typeInfo t).run P w = .ok i w := by simp [typeInfo, hi]
      have fin : ∀ (pr : Bool), m.path.toList = [] → m.func = some (f, pr) → (∀ wr, (receiverAt t (.val v) pr wr).run P w = .ok v w) → (callMethod (.iface t v) name args).run P w = (callFunc f (#[v] ++ args)).run P w := by
        intro pr h1 h2 h3
        simp only [callMethod, Sem.run_bind, run_program, Result.andThen_ok, hn, method, hti, hm, h1, follow, Sem.run_pure, h2, h3]
      split at h
      · rename_i f' u h1 h2 h3
        injection h with h
        subst h
        exact fin true h1 h2 fun wr => by simp [receiverAt, run_underlying h3, Place.get]
      · cases h
      · cases h
      · rename_i f' u hn1 hn2 h1 h2 h3
        injection h with h
        subst h
        exact fin false h1 h2 fun wr => by
          cases u <;> first | exact (hn1 _ rfl).elim | exact (hn2 _ rfl).elim | simp [receiverAt, run_underlying h3, Place.get]
      · cases h
    · cases h
  · cases h
end
end Go.Proofs.Yteeifedpabcehaa.Cx

namespace Go.Proofs.Yteeifedpabcehaa.Cx
open Go.RowKit Go.Proofs.Yteeifedpabcehaa.Bm

section
variable {C : Cf} {ρ : Rho} {W w : World} {H : CH}
theorem Rs_mapL {g : Operand → CV} {ev : Operand → Value} (hg : ∀ x, (g x).R ρ (ev x)) (l : List Operand) : CV.Rs ρ (mapL g l) (l.map ev) := by rw [mapL_eq]; exact Rs_map g ev hg l
theorem builtinC_ok (hS : SR W ρ H w) {g : Operand → CV} {ev : Operand → Value} (hg : ∀ x, (g x).R ρ (ev x)) (b : Builtin) (ts : Array TypeId) (args : Array Operand) (ty : TypeId) (cs : Array Bool) :
    (builtinC C.T g H b ts.toList args.toList).ok C.P W ρ H w (builtin b ts ty cs (args.map ev)) := by
  obtain ⟨ts⟩ := ts
  obtain ⟨args⟩ := args
  show (builtinC C.T g H b ts args).ok C.P W ρ H w _
  unfold builtinC
  split
  · rename_i t ts x xs
    rw [show (⟨x :: xs⟩ : Array Operand).map ev = (ev x :: xs.map ev).toArray by simp]
    exact Out.rd_ok hS (lenC_ok hS t (g x) (hg x) ts (xs.map ev) ty)
  · rename_i t ts x
    rw [show (⟨[x]⟩ : Array Operand).map ev = #[ev x] by simp]
    exact Out.rd_ok hS (capC_ok t (g x) (hg x) ts ty)
  · rename_i x y
    rw [show (⟨[x, y]⟩ : Array Operand).map ev = #[ev x, ev y] by simp]
    exact Out.rd_ok hS (minC_ok false (g x) (g y) (hg x) (hg y) ts.toArray ty)
  · rename_i x y
    rw [show (⟨[x, y]⟩ : Array Operand).map ev = #[ev x, ev y] by simp]
    exact Out.rd_ok hS (minC_ok true (g x) (g y) (hg x) (hg y) ts.toArray ty)
  · rename_i t t2 s x
    rw [show (⟨[s, x]⟩ : Array Operand).map ev = #[ev s, ev x] by simp]
    exact Out.wr_ok (appC_ok hS t t2 ty (g s) (g x) (hg s) (hg x))
  · rename_i t ts d x
    rw [show (⟨[d, x]⟩ : Array Operand).map ev = #[ev d, ev x] by simp]
    exact Out.wr_ok (copyC_ok hS t (g d) (g x) (hg d) (hg x) ts ty)
  · rename_i t ts m k
    rw [show (⟨[m, k]⟩ : Array Operand).map ev = #[ev m, ev k] by simp]
    exact Out.wr_ok (delC_ok hS t (g m) (g k) (hg m) (hg k) ts ty)
  · rename_i t ts x
    rw [show (⟨[x]⟩ : Array Operand).map ev = #[ev x] by simp]
    exact Out.wr_ok (clearC_ok hS t (g x) (hg x) ts ty)
  · exact trivial
theorem calleeO_ok (hS : SR W ρ H w) {g : Operand → CV} {ev : Operand → Value} (hg : ∀ x, (g x).R ρ (ev x)) (c : Call) (ty : TypeId) :
    (calleeO C g H c).ok C.P W ρ H w (do let d ← resolve ev c ty; invoke d.target d.args) := by
  obtain ⟨callee, ⟨al⟩, ts⟩ := c
  unfold calleeO
  split
  · rename_i b hc
    simp only at hc
    subst hc
    exact builtinC_ok hS hg b ts ⟨al⟩ ty _
  · rename_i f hc
    simp only at hc
    subst hc
    have hf := hg f
    have ha := Rs_mapL hg al
    unfold callC
    split
    · rename_i f' he
      rw [he] at hf
      simp only [CV.R] at hf
      refine ⟨al.map ev, ?_, ha⟩
      simp [resolve, hf, Deferred.ofValue, invoke]
    · rename_i f' a c he
      rw [he] at hf
      simp only [CV.R] at hf
      obtain ⟨as, cs, e, ra, rc⟩ := hf
      refine ⟨as ++ (al.map ev ++ cs), ?_, by rw [catL_eq, catL_eq]; exact Rs_append ra (Rs_append ha rc)⟩
      simp [resolve, e, Deferred.ofValue, invoke]
    · rename_i h he
      rw [he] at hf
      simp only [CV.R] at hf
      obtain ⟨b, m, h1, e⟩ := hf
      refine ⟨b, m, al.map ev, h1, ?_, ha⟩
      simp [resolve, e, Deferred.ofValue, invoke]
    · exact trivial
  · rename_i r name hc
    simp only at hc
    subst hc
    have hr := hg r
    have ha := Rs_mapL hg al
    unfold invO
    split
    · rename_i t x he
      rw [he] at hr
      simp only [CV.R] at hr
      obtain ⟨u, e, hu⟩ := hr
      split
      · rename_i f hm
        refine ⟨u :: al.map ev, ?_, by simp only [CV.Rs]; exact ⟨_, _, rfl, hu, ha⟩⟩
        have := methC_ok (w := w) hm u ((⟨al⟩ : Array Operand).map ev)
        have e0 : (#[u] ++ (⟨al⟩ : Array Operand).map ev) = (u :: al.map ev).toArray := by
          apply Array.ext'
          simp
        rw [e0] at this
        rw [← this]
        have e1 : (#[Value.iface t u] ++ (⟨al⟩ : Array Operand).map ev).extract 1 (#[Value.iface t u] ++ (⟨al⟩ : Array Operand).map ev).size = (⟨al⟩ : Array Operand).map ev := by
          apply Array.ext'
          simp [List.take_of_length_le]
        have e2 : (#[Value.iface t u] ++ (⟨al⟩ : Array Operand).map ev)[0]? = some (.iface t u) := by simp
        simp only [resolve, e, Sem.run_bind, Sem.run_pure, Result.andThen_ok, invoke, e1, e2]
      · exact trivial
    · exact trivial
theorem opC_ok (hG : GOk C.G W) (hS : SR W ρ H w) {g : Operand → CV} {ev : Operand → Value} (hg : ∀ x, (g x).R ρ (ev x)) (_ : ∀ v, ev (.const v) = v) (o : Oper) : (opC C g H o.op).ok C.P W ρ H w (execOp ev o) := by
  obtain ⟨dst, op, type, pos, after, guard⟩ := o
  cases op
  case move x => exact here hS (by simp [execOp]) (hg x)
  case assign x => exact here hS (by simp [execOp]) (hg x)
  case pick c a b =>
    show (pickO (g c) (g a) (g b)).ok C.P W ρ H w _
    unfold pickO
    split
    · rename_i t he
      have h := hg c
      rw [he] at h
      simp only [CV.R] at h
      cases t
      · exact here hS (by simp [execOp, h, asBool]) (hg b)
      · exact here hS (by simp [execOp, h, asBool]) (hg a)
    · exact trivial
  case alloc e => exact Out.wr_ok (allocO_ok hS e)
  case box e x => exact Out.wr_ok (boxO_ok hS e (g x) (hg x))
  case build t ps => exact Out.rd_ok hS (buildC_ok t (by simpa using PRs_map hg ps.toList))
  case buildSlice t n ps => exact Out.wr_ok (bsliceC_ok hS t n (by simpa using PRs_map hg ps.toList))
  case insert t m k x => exact Out.wu_ok (updC_ok hS t (g m) (g k) (g x) (hg m) (hg k) (hg x))
  case load t a => exact Out.rd_ok hS (loadC_ok hG hS t (g a) (hg a))
  case store t a x => exact Out.wu_ok (storeC_ok hS t (g a) (g x) (hg a) (hg x))
  case nilCheck x =>
    show (nilCk (g x)).ok C.P W ρ H w _
    have h := hg x
    unfold nilCk
    split
    · rename_i he
      rw [he] at h ⊢
      have h' := h
      simp only [CV.R] at h
      obtain ⟨b, m, h1, e⟩ := h
      exact here hS (by simp [execOp, e]) h'
    · rename_i he
      rw [he] at h ⊢
      have h' := h
      simp only [CV.R] at h
      exact here hS (by simp [execOp, h]) h'
    · rename_i he
      rw [he] at h ⊢
      have h' := h
      simp only [CV.R] at h
      obtain ⟨as, cs, e, _⟩ := h
      exact here hS (by simp [execOp, e]) h'
    · rename_i he
      rw [he] at h ⊢
      have h' := h
      simp only [CV.R] at h
      exact here hS (by simp [execOp, h]) h'
    · exact trivial
  case binOp op t x y yt =>
    refine Out.rd_ok hS (binC_ok (cstO x || cstO y) op t (g x) (g y) (hg x) (hg y) x y fun h => ?_)
    rw [Bool.or_eq_true] at h
    refine h.imp (fun h => ?_) fun h => ?_
    · cases x <;> first | exact ⟨_, rfl⟩ | cases h
    · cases y <;> first | exact ⟨_, rfl⟩ | cases h
  case unOp op t x => exact Out.rd_ok hS (unO_ok op (g x) (hg x))
  case convert s d x => exact Out.wr_ok (convC_ok hS s d (g x) (hg x))
  case sliceToArrayPointer t x => exact Out.rd_ok hS (s2aO_ok t (g x) (hg x))
  case makeInterface t x => exact Out.rd_ok hS (ifcC_ok t (g x) (hg x))
  case makeFunc fn f c =>
    refine ⟨.func fn (f.map ev) (c.map ev), w, ρ, .inl (by simp [execOp, Instr.makeFunc]), Rho.le.refl _, hS, ?_⟩
    simp only [CV.R]
    exact ⟨f.toList.map ev, c.toList.map ev, by congr 1 <;> (apply Array.ext'; simp), Rs_mapL hg _, Rs_mapL hg _⟩
  case makeMap t r =>
    cases r with
    | some r => exact trivial
    | none => exact Out.wr_ok (mmapO_ok hS t)
  case makeSlice t l c => exact Out.wr_ok (msliceC_ok hS t (g l) (g c) (hg l) (hg c))
  case slice t x lo hi mx =>
    show (sliceO C.T H g t x lo hi mx).ok C.P W ρ H w _
    unfold sliceO
    cases hb : (mx.isSome && !hi.isSome) with
    | true => exact trivial
    | false =>
      refine Out.rd_ok hS (sliceC_ok hS hg t (g x) lo hi mx (hg x) fun h => ?_)
      rw [h] at hb
      simpa using hb
  case fieldAddr t x f => exact Out.rd_ok hS (faddrC_ok t f (g x) (hg x))
  case field t x f => exact Out.rd_ok hS (fieldO_ok t f (g x) (hg x))
  case indexAddr t x i => exact Out.rd_ok hS (iaddrC_ok t (g x) (g i) (hg x) (hg i))
  case index t x i => exact Out.rd_ok hS (indexC_ok t (g x) (g i) (hg x) (hg i))
  case lookup t m k ok => exact Out.rd_ok hS (lookC_ok hS t (g m) (g k) ok (hg m) (hg k))
  case mapUpdate t m k x => exact Out.wu_ok (updC_ok hS t (g m) (g k) (g x) (hg m) (hg k) (hg x))
  case range t x => exact Out.wr_ok (rangeC_ok hS t (g x) (hg x))
  case next it s => exact Out.wr_ok (nextC_ok hS (g it) s type (hg it))
  case entry it => exact Out.rd_ok hS (entryC_ok hS (g it) (hg it))
  case typeAssert x xt t ok => exact Out.rd_ok hS (assertC_ok t xt ok (g x) (hg x))
  case extract t i => exact Out.rd_ok hS (extrO_ok (g t) i (hg t))
  case call c => exact calleeO_ok hS hg c type
  case panic x =>
    show (panO (g x)).ok C.P W ρ H w _
    have h := hg x
    unfold panO
    split
    · rename_i t y he
      rw [he] at h
      have h' := h
      simp only [CV.R] at h
      obtain ⟨u, e, _⟩ := h
      exact ⟨ev x, by simp [execOp, e, Instr.panic], h'⟩
    · exact trivial
  all_goals exact trivial
end
end Go.Proofs.Yteeifedpabcehaa.Cx

namespace Go.Proofs.Yteeifedpabcehaa.Cx
open Go.RowKit Go.Proofs.Yteeifedpabcehaa.Bm

/-! Answers. -/
def OkIn (a : Ans) (L : List Fin) : Prop := ∃ l, a = .ok l ∧ ∀ x ∈ l, x ∈ L
theorem OkIn.bad {f y : Nat} {L : List Fin} (h : OkIn (.bad f y) L) : False := by obtain ⟨l, h, _⟩ := h; cases h
theorem OkIn.app {a b : Ans} {L : List Fin} (h : OkIn (Ans.app a b) L) : OkIn a L ∧ OkIn b L := by
  obtain ⟨l, h, hl⟩ := h
  cases a with
  | bad f y => cases h
  | ok x =>
    cases b with
    | bad f y => cases h
    | ok y =>
      injection h with h
      subst h
      exact ⟨⟨x, rfl, fun z hz => hl z (List.mem_append_left _ hz)⟩, ⟨y, rfl, fun z hz => hl z (List.mem_append_right _ hz)⟩⟩
theorem OkIn.each {α : Type} (f : α → Ans) {L : List Fin} : ∀ {l : List α}, OkIn (List.rec (motive := fun _ => Ans) (.ok []) (fun x _ r => Ans.app (f x) r) l) L → ∀ x ∈ l, OkIn (f x) L
  | [], _, x, hx => by cases hx
  | y :: ys, h, x, hx => by
    have h : OkIn (Ans.app (f y) (List.rec (motive := fun _ => Ans) (.ok []) (fun x _ r => Ans.app (f x) r) ys)) L := h
    obtain ⟨h1, h2⟩ := h.app
    rcases List.mem_cons.1 hx with rfl | hx
    · exact h1
    · exact OkIn.each f h2 x hx
theorem OkIn.bind {a : Ans} {k p : CV → CH → Ans} {L : List Fin} (h : OkIn (bindF a k p) L) : ∃ l, a = .ok l ∧ (∀ v H, Fin.ret v H ∈ l → OkIn (k v H) L) ∧ ∀ v H, Fin.pan v H ∈ l → OkIn (p v H) L := by
  unfold bindF at h
  split at h
  · exact h.bad.elim
  · rename_i v H
    refine ⟨_, rfl, fun v' H' hm => ?_, fun v' H' hm => ?_⟩
    · simp at hm; obtain ⟨rfl, rfl⟩ := hm; exact h
    · simp at hm
  · rename_i l _
    have := OkIn.each (fun x : Fin => match x with
      | .ret v H => k v H
      | .pan v H => p v H) (l := l) h
    exact ⟨l, rfl, fun v H hm => this _ hm, fun v H hm => this _ hm⟩

/-! Slots. -/
def MarksR (ρ : Rho) : List Nat → List Deferred → Prop
  | [], l => l = []
  | d :: ds, l => ∃ b m rest, ρ d = some (b, m) ∧ l = { target := .collected b, args := #[] } :: rest ∧ MarksR ρ ds rest
theorem MarksR.mono {ρ ρ' : Rho} (hle : Rho.le ρ ρ') : ∀ {ds : List Nat} {l : List Deferred}, MarksR ρ ds l → MarksR ρ' ds l
  | [], _, h => h
  | _ :: _, _, ⟨b, m, rest, h1, h2, h3⟩ => ⟨b, m, rest, hle _ _ h1, h2, h3.mono hle⟩
/-- Slots, but for those of which nothing is said. -/
structure EvS (ρ : Rho) (N : Nat) (e : Tr CV) (ds : List Nat) (a : Act) (S : Nat → Prop) : Prop where
  size : a.tmps.size = N
  slot : ∀ t v, e.get t = some v → ¬ S t → t < N ∧ v.R ρ (a.tmps.getD t undef)
  marks : MarksR ρ ds a.defers
noncomputable def putd (N : Nat) (e : Tr CV) (d : Option Tmp) (v : CV) : Tr CV := match d with
  | none => e
  | some t => bif Nat.ble (t + 1) N then e.set t (some v) else e
theorem putK_eq {β : Type} (N : Nat) (e : Tr CV) (d : Option Tmp) (v : CV) (k : Tr CV → β) : putK N e d v k = k (putd N e d v) := by
  cases d with
  | none => rfl
  | some t =>
    show pSome t N e v k = _
    unfold pSome putd
    simp only
    cases hb : Nat.ble (t + 1) N with
    | true => exact Tr.setK_eq _ _ _ _
    | false => rfl
theorem getD_set {tv : Array Value} {t j : Nat} {u : Value} : (tv.setIfInBounds t u).getD j undef = if j = t ∧ t < tv.size then u else tv.getD j undef := by
  simp only [Array.getD_eq_getD_getElem?, Array.getElem?_setIfInBounds]
  by_cases h : t = j
  · subst h
    by_cases h2 : t < tv.size
    · simp [h2]
    · simp [h2]
  · have : ¬ (j = t) := fun e => h e.symm
    simp [h, this]
section
variable {ρ ρ' : Rho} {N : Nat} {e : Tr CV} {ds : List Nat} {a : Act} {S : Nat → Prop}
theorem get_putd {d : Option Tmp} {v : CV} {t : Nat} : (putd N e d v).get t = if d = some t ∧ t < N then some v else e.get t := by
  unfold putd
  split
  · simp
  · rename_i t'
    cases hb : Nat.ble (t' + 1) N with
    | true =>
      have := Nat.le_of_ble_eq_true hb
      simp only [cond_true, Tr.get_set]
      by_cases h : t = t'
      · subst h; rw [if_pos rfl, if_pos ⟨rfl, this⟩]
      · rw [if_neg h, if_neg]
        rintro ⟨h1, _⟩
        injection h1 with h1
        exact h h1.symm
    | false =>
      have : ¬ (t' + 1 ≤ N) := fun h => by rw [Nat.ble_eq_true_of_le h] at hb; cases hb
      simp only [cond_false]
      rw [if_neg]
      rintro ⟨h1, h2⟩
      injection h1 with h1
      subst h1
      exact this h2
theorem EvS.mono (hE : EvS ρ N e ds a S) (hle : Rho.le ρ ρ') : EvS ρ' N e ds a S := ⟨hE.size, fun t v h hs => ⟨(hE.slot t v h hs).1, CV.R_mono hle _ _ (hE.slot t v h hs).2⟩, hE.marks.mono hle⟩
theorem put_size (a : Act) (d : Option Tmp) (u : Value) : (a.put d u).tmps.size = a.tmps.size := by cases d <;> simp [Act.put]
theorem put_defers (a : Act) (d : Option Tmp) (u : Value) : (a.put d u).defers = a.defers := by cases d <;> rfl
theorem put_getD (a : Act) (d : Option Tmp) (u : Value) (t : Nat) : (a.put d u).tmps.getD t undef = if d = some t ∧ t < a.tmps.size then u else a.tmps.getD t undef := by
  cases d with
  | none => simp [Act.put]
  | some t' =>
    simp only [Act.put]
    rw [getD_set]
    by_cases h : t = t'
    · subst h; simp
    · have : ¬ (t' = t) := fun e => h e.symm
      simp [h, this]
theorem EvS.put (hE : EvS ρ N e ds a S) (hle : Rho.le ρ ρ') (d : Option Tmp) {v : CV} {u : Value} (hv : v.R ρ' u) : EvS ρ' N (putd N e d v) ds (a.put d u) S := by
  refine ⟨(put_size ..).trans hE.size, fun t x hx hs => ?_, by rw [put_defers]; exact hE.marks.mono hle⟩
  rw [get_putd] at hx
  rw [put_getD, hE.size]
  split at hx
  · rename_i h
    injection hx with hx
    subst hx
    rw [if_pos h]
    exact ⟨h.2, hv⟩
  · rename_i h
    rw [if_neg h]
    exact (hE.mono hle).slot t x hx hs
open Classical in
noncomputable def mop (S : Nat → Prop) (e : Tr CV) (x : Operand) : CV := match x with
  | .tmp t => if S t then .junk else opd e (.tmp t)
  | x => opd e x
theorem opd_tmp (t : Nat) : opd e (.tmp t) = (e.get t).getD .junk := by
  show dTmp t e = _
  unfold dTmp
  cases e.get t <;> rfl
theorem mop_ok (hE : EvS ρ N e ds a S) (x : Operand) : (mop S e x).R ρ (a.eval x) := by
  cases x with
  | tmp t =>
    show (mop S e (.tmp t)).R ρ (a.tmps.getD t undef)
    unfold mop
    simp only
    split
    · simp only [CV.R]
    · rename_i hs
      rw [opd_tmp]
      cases h : e.get t with
      | none => simp only [Option.getD_none, CV.R]
      | some v => exact (hE.slot t v h hs).2
  | const v => exact R_ofV v
  | global g => show (CV.gp g 0).R ρ _; simp only [CV.R]; rfl
  | func f => show (CV.v (.func (.func f) #[] #[])).R ρ _; simp only [CV.R]; rfl
theorem mop_eq {x : Operand} (h : ∀ t, x = .tmp t → ¬ S t) : mop S e x = opd e x := by
  cases x with
  | tmp t => exact if_neg (h t rfl)
  | _ => rfl
end
theorem mapL_congr {α β : Type} {f g : α → β} : ∀ {l : List α}, (∀ x ∈ l, f x = g x) → mapL f l = mapL g l
  | [], _ => rfl
  | x :: xs, h => by
    show f x :: mapL f xs = g x :: mapL g xs
    rw [h x (List.mem_cons_self ..), mapL_congr fun y hy => h y (List.mem_cons_of_mem _ hy)]
theorem optN_congr {g g' : Operand → CV} {d : Nat} {o : Option Operand} (h : ∀ x, o = some x → g x = g' x) : optN g d o = optN g' d o := by
  cases o with
  | none => rfl
  | some x => simp only [optN, h x rfl]
theorem parts_congr {g g' : Operand → CV} {l : List (Nat × Operand)} (h : ∀ x ∈ l.map (·.2), g x = g' x) : mapL (partsG g) l = mapL (partsG g') l :=
  mapL_congr fun p hp => by unfold partsG; rw [h p.2 (List.mem_map_of_mem hp)]
theorem calleeO_congr (C : Cf) (H : CH) {g g' : Operand → CV} (c : Call) (h : ∀ x ∈ c.operands.toList, g x = g' x) : calleeO C g H c = calleeO C g' H c := by
  obtain ⟨callee, ⟨al⟩, ts⟩ := c
  have ha : ∀ x ∈ al, g x = g' x := fun x hx => h x (by simp [Call.operands, hx])
  cases callee with
  | value f =>
    have hf : g f = g' f := h f (by simp [Call.operands])
    show callC C (g f) (mapL g al) = callC C (g' f) (mapL g' al)
    rw [hf, mapL_congr ha]
  | invoke r name =>
    have hf : g r = g' r := h r (by simp [Call.operands])
    show invO C (g r) name (mapL g al) = invO C (g' r) name (mapL g' al)
    rw [hf, mapL_congr ha]
  | builtin b =>
    show builtinC C.T g H b ts.toList al = builtinC C.T g' H b ts.toList al
    unfold builtinC
    split <;> first | rfl | skip
    · rw [ha _ (by simp)]
    · rw [ha _ (by simp)]
    · rename_i x y; rw [ha x (by simp), ha y (by simp)]
    · rename_i x y; rw [ha x (by simp), ha y (by simp)]
    · rename_i x y _; rw [ha x (by simp), ha y (by simp)]
    · rename_i x y _; rw [ha x (by simp), ha y (by simp)]
    · rename_i x y _; rw [ha x (by simp), ha y (by simp)]
    · rw [ha _ (by simp)]
theorem opC_congr (C : Cf) (H : CH) {g g' : Operand → CV} (op : Op) (h : ∀ x ∈ op.operands.toList, g x = g' x) : opC C g H op = opC C g' H op := by
  cases op <;> try rfl
  case move x => show Out.old (g x) .nop = _; rw [h x (by simp [Op.operands])]; rfl
  case assign x => show Out.old (g x) .nop = _; rw [h x (by simp [Op.operands])]; rfl
  case pick c a b => show pickO (g c) (g a) (g b) = _; rw [h c (by simp [Op.operands]), h a (by simp [Op.operands]), h b (by simp [Op.operands])]; rfl
  case box e x => show boxO H (g x) = _; rw [h x (by simp [Op.operands])]; rfl
  case build t ps => show buildC C.T t (mapL (partsG g) ps.toList) = _; rw [parts_congr fun x hx => h x (by simpa [Op.operands] using hx)]; rfl
  case buildSlice t n ps => show bsliceC C.T H t n (mapL (partsG g) ps.toList) = _; rw [parts_congr fun x hx => h x (by simpa [Op.operands] using hx)]; rfl
  case insert t m k x => show updC C.T H t (g m) (g k) (g x) = _; rw [h m (by simp [Op.operands]), h k (by simp [Op.operands]), h x (by simp [Op.operands])]; rfl
  case load t a => show loadC C.T C.G H t (g a) = _; rw [h a (by simp [Op.operands])]; rfl
  case store t a x => show storeC C.T H t (g a) (g x) = _; rw [h a (by simp [Op.operands]), h x (by simp [Op.operands])]; rfl
  case nilCheck x => show nilCk (g x) = _; rw [h x (by simp [Op.operands])]; rfl
  case binOp op t x y yt => show binC C.T (cstO x || cstO y) op t (g x) (g y) = _; rw [h x (by simp [Op.operands]), h y (by simp [Op.operands])]; rfl
  case unOp op t x => show unO op (g x) = _; rw [h x (by simp [Op.operands])]; rfl
  case convert s d x => show convC C.T H s d (g x) = _; rw [h x (by simp [Op.operands])]; rfl
  case sliceToArrayPointer t x => show s2aO C.T t (g x) = _; rw [h x (by simp [Op.operands])]; rfl
  case makeInterface t x => show ifcC C.T t (g x) = _; rw [h x (by simp [Op.operands])]; rfl
  case makeFunc fn f c => show Out.new (.fnc fn (mapL g f.toList) (mapL g c.toList)) .nop = _; rw [mapL_congr fun x hx => h x (by simp [Op.operands] at hx ⊢; exact .inl hx), mapL_congr (l := c.toList) fun x hx => h x (by simp [Op.operands] at hx ⊢; exact .inr hx)]; rfl
  case makeSlice t l c => show msliceC C.T H t (g l) (g c) = _; rw [h l (by simp [Op.operands]), h c (by simp [Op.operands])]; rfl
  case slice t x lo hi mx =>
    have hx := h x (by simp [Op.operands])
    have h1 : ∀ d, optN g d lo = optN g' d lo := fun d => optN_congr fun y hy => h y (by subst hy; simp [Op.operands])
    have h2 : ∀ d, optN g d hi = optN g' d hi := fun d => optN_congr fun y hy => h y (by subst hy; simp [Op.operands])
    have h3 : ∀ d, optN g d mx = optN g' d mx := fun d => optN_congr fun y hy => h y (by subst hy; simp [Op.operands])
    show sliceO C.T H g t x lo hi mx = sliceO C.T H g' t x lo hi mx
    unfold sliceO sliceC
    simp only [hx, h1, h2, h3]
    cases mx with
    | none => rfl
    | some m =>
      have h4 : ∀ d, optN g d (some m) = optN g' d (some m) := h3
      simp only [h4]
  case fieldAddr t x f => show faddrC C.T t f (g x) = _; rw [h x (by simp [Op.operands])]; rfl
  case field t x f => show fieldO C.T t f (g x) = _; rw [h x (by simp [Op.operands])]; rfl
  case indexAddr t x i => show iaddrC C.T t (g x) (g i) = _; rw [h x (by simp [Op.operands]), h i (by simp [Op.operands])]; rfl
  case index t x i => show indexC C.T t (g x) (g i) = _; rw [h x (by simp [Op.operands]), h i (by simp [Op.operands])]; rfl
  case lookup t m k ok => show lookC C.T H t (g m) (g k) ok = _; rw [h m (by simp [Op.operands]), h k (by simp [Op.operands])]; rfl
  case mapUpdate t m k x => show updC C.T H t (g m) (g k) (g x) = _; rw [h m (by simp [Op.operands]), h k (by simp [Op.operands]), h x (by simp [Op.operands])]; rfl
  case range t x => show rangeC C.T H t (g x) = _; rw [h x (by simp [Op.operands])]; rfl
  case next it s => show nextC H (g it) s = _; rw [h it (by simp [Op.operands])]; rfl
  case entry it => show entryC H (g it) = _; rw [h it (by simp [Op.operands])]; rfl
  case typeAssert x xt t ok => show assertC C.T t ok (g x) = _; rw [h x (by simp [Op.operands])]; rfl
  case extract t i => show extrO (g t) i = _; rw [h t (by simp [Op.operands])]; rfl
  case call c => exact calleeO_congr C H c h
  case panic x => show panO (g x) = _; rw [h x (by simp [Op.operands])]; rfl
end Go.Proofs.Yteeifedpabcehaa.Cx

namespace Go.Proofs.Yteeifedpabcehaa.Cx
open Go.RowKit Go.Proofs.Yteeifedpabcehaa.Bm

/-- How a call ends. -/
def Got (W : World) (ρ : Rho) (l : List Fin) : Ending → World → Prop
  | .returned u, w' => ∃ v H' ρ', Fin.ret v H' ∈ l ∧ Rho.le ρ ρ' ∧ SR W ρ' H' w' ∧ v.R ρ' u
  | .panicked ch, w' => ∃ u v H' ρ', ch = [{ v := u, recovered := false }] ∧ Fin.pan v H' ∈ l ∧ Rho.le ρ ρ' ∧ SR W ρ' H' w' ∧ v.R ρ' u
  | .outgrown, _ => False
def FE (rb : Option Nat) : Fence := { Fence.wide with round := rb }
theorem calls_FE {rb : Option Nat} {P : Program} {f : Nat} {as : Array Value} {w : World} {R : Ending → World → Prop} (h : CallsIn Fence.wide 0 P f as w R) : CallsIn (FE rb) 0 P f as w R := by
  cases rb with
  | none => exact h
  | some l => exact h.inRound l
theorem round_FE {rb : Option Nat} {P : Program} {l f : Nat} {tmps : Array Value} {asg body : Code} {w : World} {R : Ending → World → Prop} (h : RoundIn Fence.wide 0 P l f tmps asg body w R) : RoundIn (FE rb) 0 P l f tmps asg body w R := by
  cases rb with
  | none => exact h
  | some b => exact h
def Called (C : Cf) (W : World) (ρ : Rho) (l : List Fin) (f : Nat) (r : Result Next) : Prop :=
  (∃ f as w0, r = .ok (.enter f as) w0 ∧ CallsIn Fence.wide 0 C.P f as w0 (Got W ρ l)) ∨ C.X.get f ≠ none ∧ ∃ u w', r = .ok (.value u) w' ∧ Got W ρ l (.returned u) w'
structure CallOk (C : Cf) (W : World) (call : CallT) : Prop where
  fn : ∀ f args H l, call (.fn f) args H = .ok l → ∀ ρ w (as : List Value), SR W ρ H w → CV.Rs ρ args as → Called C W ρ l f ((callFunc f as.toArray).run C.P w)
  rnd : ∀ h args H l, call (.rnd h) args H = .ok l → ∀ ρ w (as : List Value) b m, ρ h = some (b, m) → SR W ρ H w → CV.Rs ρ args as →
    ∃ f tmps asg body, (Instr.yield b as.toArray).run C.P w = .ok (.round b f tmps asg body) w ∧ RoundIn Fence.wide 0 C.P b f tmps asg body w (Got W ρ l)
/-- A panic that leaves the function. -/
def PanOk (X : Cx) (W : World) (L : List Fin) (ρ : Rho) (Q : Exit → Act → World → Prop) : Prop :=
  ∀ ρ' v u H w' (a : Act), X.rd = none → Fin.pan v H ∈ L → Rho.le ρ ρ' → SR W ρ' H w' → v.R ρ' u → a.defers = [] → Q (.panic [{ v := u, recovered := false }]) a w'
theorem PanOk.mono {X : Cx} {W : World} {L : List Fin} {ρ ρ' : Rho} {Q : Exit → Act → World → Prop} (h : PanOk X W L ρ Q) (hle : Rho.le ρ ρ') : PanOk X W L ρ' Q :=
  fun r v u H w' a h0 h1 h2 => h r v u H w' a h0 h1 (hle.trans h2)
theorem panF_ok {X : Cx} {ds : List Nat} {v : CV} {H : CH} {L : List Fin} (h : OkIn (panF X ds v H) L) : X.rd = none ∧ ds = [] ∧ Fin.pan v H ∈ L := by
  unfold panF at h
  split at h
  · rename_i h1
    obtain ⟨l, e, hl⟩ := h
    injection e with e
    subst e
    exact ⟨h1, rfl, hl _ (List.mem_singleton.2 rfl)⟩
  · exact h.bad.elim
section
variable {X : Cx} {rb : Option Nat} {L : List Fin} {W w : World} {ρ : Rho} {H : CH} {e : Tr CV} {ds : List Nat} {K : KT} {next : Act → World → Prop} {Q : Exit → Act → World → Prop} {a : Act}
theorem useO_ok (hC : CallOk X.C W X.call) (hS : SR W ρ H w) {out : Out} (o : Oper) (hout : out.ok X.C.P W ρ H w (execOp a.eval o)) (hm : MarksR ρ ds a.defers) (h : OkIn (useO out o.dst X ds e H K) L)
    (hn : ∀ v H' ρ' u w', OkIn (K (putd X.N e o.dst v) H') L → Rho.le ρ ρ' → SR W ρ' H' w' → v.R ρ' u → next (a.put o.dst u) w') (hp : PanOk X W L ρ Q) : o.uponIn (FE rb) 0 X.C.P a next Q ((execOp a.eval o).run X.C.P w) := by
  have did : ∀ (v : CV) (c : Cmd) (u : Value) (w' : World) (ρ' : Rho), OkIn (K (putd X.N e o.dst v) (c.app H)) L → Did X.C.P (execOp a.eval o) w u w' → Rho.le ρ ρ' → SR W ρ' (c.app H) w' → v.R ρ' u → o.uponIn (FE rb) 0 X.C.P a next Q ((execOp a.eval o).run X.C.P w) := by
    intro v c u w' ρ' hk hd hle hS' hv
    have := hn v _ ρ' u w' hk hle hS' hv
    rcases hd with hd | ⟨hd, rfl⟩
    · rw [hd]; exact this
    · rw [hd]; exact this
  have pan : ∀ (v : CV) (u : Value) (H' : CH) (ρ' : Rho) (w' : World), OkIn (panF X ds v H') L → Rho.le ρ ρ' → SR W ρ' H' w' → v.R ρ' u → Q (.panic [{ v := u, recovered := false }]) a w' := by
    intro v u H' ρ' w' hk hle hS' hv
    obtain ⟨h1, rfl, h2⟩ := panF_ok hk
    exact hp ρ' v u H' w' a h1 h2 hle hS' hv hm
  cases out with
  | no y => exact (OkIn.bad h).elim
  | old v c =>
    have h : OkIn (c.appK H fun H => putK X.N e o.dst v fun e => K e H) L := h
    rw [Cmd.appK_eq, putK_eq] at h
    obtain ⟨u, w', ρ', h1, h2, h3, h4⟩ := hout
    exact did v c u w' ρ' h h1 h2 h3 h4
  | new v c =>
    have h : OkIn (v.fK fun v => c.appK H fun H => putK X.N e o.dst v fun e => K e H) L := h
    rw [CV.fK_eq, Cmd.appK_eq, putK_eq] at h
    obtain ⟨u, w', ρ', h1, h2, h3, h4⟩ := hout
    exact did v c u w' ρ' h h1 h2 h3 h4
  | many l =>
    obtain ⟨v, c, h0, u, w', ρ', h1, h2, h3, h4⟩ := hout
    have h := OkIn.each (fun p : CV × Cmd => p.1.fK fun v => p.2.appK H fun H => putK X.N e o.dst v fun e => K e H) h _ h0
    simp only [CV.fK_eq, Cmd.appK_eq, putK_eq] at h
    exact did v c u w' ρ' h h1 h2 h3 h4
  | call f args =>
    have h : OkIn (bindF (X.call (.fn f) args H) (fun v H => putK X.N e o.dst v fun e => K e H) (panF X ds)) L := h
    obtain ⟨l, hl, k1, k2⟩ := h.bind
    obtain ⟨as, hr, hR⟩ := hout
    rw [hr]
    rcases hC.fn f args H l hl ρ w as hS hR with ⟨f', as', w0, e1, e2⟩ | ⟨_, u, w', e1, v, H', ρ', e2, e3, e4, e5⟩
    · rw [e1, Oper.uponIn_enter]
      refine ⟨fun h => (by cases h), (calls_FE e2).mono fun en w' hg => ?_⟩
      cases en with
      | returned u =>
        obtain ⟨v, H', ρ', g1, g2, g3, g4⟩ := hg
        have := k1 v H' g1
        rw [putK_eq] at this
        exact hn v H' ρ' u w' this g2 g3 g4
      | panicked ch =>
        obtain ⟨u, v, H', ρ', rfl, g1, g2, g3, g4⟩ := hg
        exact pan v u H' ρ' w' (k2 v H' g1) g2 g3 g4
      | outgrown => exact hg.elim
    · rw [e1, Oper.uponIn_value]
      have := k1 v H' e2
      rw [putK_eq] at this
      exact hn v H' ρ' u w' this e3 e4 e5
  | rnd hh args =>
    have h : OkIn (bindF (X.call (.rnd hh) args H) (fun v H => putK X.N e o.dst v fun e => K e H) (panF X ds)) L := h
    obtain ⟨l, hl, k1, k2⟩ := h.bind
    obtain ⟨b, m, as, hb, hr, hR⟩ := hout
    obtain ⟨f, tmps, asg, body, e1, e2⟩ := hC.rnd hh args H l hl ρ w as b m hb hS hR
    rw [hr, e1, Oper.uponIn_round]
    refine ⟨fun h => (by cases h), (round_FE e2).mono fun en w' hg => ?_⟩
    cases en with
    | returned u =>
      obtain ⟨v, H', ρ', g1, g2, g3, g4⟩ := hg
      have := k1 v H' g1
      rw [putK_eq] at this
      exact hn v H' ρ' u w' this g2 g3 g4
    | panicked ch =>
      obtain ⟨u, v, H', ρ', rfl, g1, g2, g3, g4⟩ := hg
      exact pan v u H' ρ' w' (k2 v H' g1) g2 g3 g4
    | outgrown => exact hg.elim
  | pan v =>
    have h : OkIn (panF X ds v H) L := h
    obtain ⟨u, e1, hv⟩ := hout
    rw [e1, Oper.uponIn_panic]
    exact pan v u H ρ w h (Rho.le.refl _) hS hv
theorem tmpsL_cons (y : Operand) (ys : List Operand) : tmpsL (y :: ys) = match y with
  | .tmp t => t :: tmpsL ys
  | _ => tmpsL ys := rfl
theorem looks_ops {ops : Array Oper} {o : Oper} {x : Operand} (hx : x ∈ o.op.operands.toList) {t : Nat} (ht : x = .tmp t) : t ∈ looksL ops.toList o := by
  unfold looksL
  rw [catL_eq]
  refine List.mem_append_right _ ?_
  subst ht
  generalize o.op.operands.toList = l at hx
  induction l with
  | nil => cases hx
  | cons y ys ih =>
    rw [tmpsL_cons]
    rcases List.mem_cons.1 hx with rfl | hx
    · exact List.mem_cons_self ..
    · have := ih hx
      split
      · exact List.mem_cons_of_mem _ this
      · exact this
theorem looks_guard {ops : Array Oper} {o : Oper} {j : Nat} {want : Bool} (hg : o.guard = some (j, want)) {oj : Oper} (hj : ops[j]? = some oj) {t : Nat} (ht : oj.dst = some t) : t ∈ looksL ops.toList o := by
  unfold looksL
  rw [catL_eq]
  refine List.mem_append_left _ ?_
  rw [hg]
  simp only [nth_eq, Array.getElem?_toList, hj, dstL, ht]
  exact List.mem_singleton.2 rfl
/-- A guard's word. -/
inductive Wants (ops : Array Oper) (o : Oper) (e : Tr CV) : Bool → Prop where
  | free (h : o.guard = none) : Wants ops o e true
  | yes {j : Nat} {want b : Bool} (h : o.guard = some (j, want)) (hv : wantV ops.toList j e = .bool b) : Wants ops o e (wBool b want)
  | undef {j : Nat} {want : Bool} (h : o.guard = some (j, want)) (hv : wantV ops.toList j e = .tup []) : Wants ops o e false
theorem Wants.ok {S : Nat → Prop} {N : Nat} {ops : Array Oper} {o : Oper} {b : Bool} (h : Wants ops o e b) (hE : EvS ρ N e ds a S) (hl : ∀ t ∈ looksL ops.toList o, ¬ S t) : Region.wanted o (yielded ops a.tmps) = b := by
  have look : ∀ {j : Nat} {want : Bool}, o.guard = some (j, want) → (wantV ops.toList j e = .tup [] ∧ ((ops[j]?).bind (·.dst)) = none) ∨ ∃ t, (ops[j]?).bind (·.dst) = some t ∧ wantV ops.toList j e = dTmp t e ∧ ¬ S t := by
    intro j want hg
    unfold wantV
    rw [nth_eq]
    simp only [Array.getElem?_toList]
    cases hj : ops[j]? with
    | none => exact .inl ⟨rfl, rfl⟩
    | some oj =>
      simp only [Option.bind_some]
      cases hd : oj.dst with
      | none => exact .inl ⟨rfl, rfl⟩
      | some t => exact .inr ⟨t, rfl, rfl, hl t (looks_guard hg hj hd)⟩
  have slot : ∀ t v, dTmp t e = v → v ≠ .junk → ¬ S t → ∃ u, a.tmps[t]? = some u ∧ v.R ρ u := by
    intro t v hv hne hs
    have hv : opd e (.tmp t) = v := hv
    rw [opd_tmp] at hv
    cases hx : e.get t with
    | none => rw [hx] at hv; exact absurd hv.symm hne
    | some x =>
      rw [hx] at hv
      simp only [Option.getD_some] at hv
      subst hv
      obtain ⟨h1, h2⟩ := hE.slot t x hx hs
      have hlt : t < a.tmps.size := by rw [hE.size]; exact h1
      exact ⟨a.tmps[t], Array.getElem?_eq_getElem hlt, by simpa [Array.getD_eq_getD_getElem?, hlt] using h2⟩
  cases h with
  | free h => simp [Region.wanted, h]
  | @yes j want b hg hv =>
    rcases look hg with ⟨h1, _⟩ | ⟨t, h1, h2, h3⟩
    · rw [h1] at hv; cases hv
    · rw [h2] at hv
      obtain ⟨u, g1, g2⟩ := slot t _ hv (by simp) h3
      simp only [CV.R] at g2
      subst g2
      have : yielded ops a.tmps j = some b := by simp [yielded, h1, g1]
      cases b <;> cases want <;> simp [Region.wanted, hg, this, wBool]
  | @undef j want hg hv =>
    have : yielded ops a.tmps j = none := by
      rcases look hg with ⟨_, h1⟩ | ⟨t, h1, h2, h3⟩
      · simp [yielded, h1]
      · rw [h2] at hv
        obtain ⟨u, g1, g2⟩ := slot t _ hv (by simp) h3
        simp only [CV.R, CV.Rs] at g2
        obtain ⟨vs, rfl, _⟩ := g2
        simp [yielded, h1, g1]
    simp [Region.wanted, hg, this]
theorem stepO_ok {S : Nat → Prop} {ops : Array Oper} (hC : CallOk X.C W X.call) (hG : GOk X.C.G W) (hS : SR W ρ H w) (hE : EvS ρ X.N e ds a S) (o : Oper) (hl : ∀ t ∈ looksL ops.toList o, ¬ S t) (h : OkIn (stepO X ds ops o e H K) L)
    (hn : ∀ v H' ρ' u w', OkIn (K (putd X.N e o.dst v) H') L → Rho.le ρ ρ' → SR W ρ' H' w' → v.R ρ' u → next (a.put o.dst u) w') (hp : PanOk X W L ρ Q) :
    if Region.wanted o (yielded ops a.tmps) then o.wpIn (FE rb) 0 X.C.P a w next Q else (∀ f, o.about X.C.P w a.eval = some f → (FE rb).fn f) ∧ next (a.put o.dst undef) w := by
  have main : OkIn (doO X ds o e H K) L → o.wpIn (FE rb) 0 X.C.P a w next Q := by
    intro h
    unfold doO at h
    rw [← opC_congr X.C H (g := mop S e) o.op fun x hx => mop_eq fun t ht => hl t (looks_ops hx ht)] at h
    refine ⟨fun _ _ => trivial, ?_⟩
    rw [Oper.semAt_eq]
    · exact useO_ok hC hS o (opC_ok hG hS (mop_ok hE) (fun _ => rfl) o) hE.marks h hn hp
    · intro c hc
      rw [hc] at h
      exact OkIn.bad h
  have skip : OkIn (putK X.N e o.dst (.tup []) fun e => K e H) L → next (a.put o.dst undef) w := fun h => by
    rw [putK_eq] at h
    exact hn _ H ρ undef w h (Rho.le.refl _) hS R_unit
  unfold stepO at h
  cases hg : o.guard with
  | none =>
    rw [hg] at h
    rw [(Wants.free (e := e) hg).ok hE hl, if_pos rfl]
    exact main h
  | some g =>
    obtain ⟨j, want⟩ := g
    rw [hg] at h
    have h : OkIn (gPick X.fid (wantV ops.toList j e) want (doO X ds o e H K) (putK X.N e o.dst (.tup []) fun e => K e H)) L := h
    unfold gPick at h
    split at h
    · rename_i b hv
      rw [(Wants.yes hg hv).ok hE hl]
      cases hb : wBool b want with
      | true => rw [hb] at h; rw [if_pos rfl]; exact main h
      | false => rw [hb] at h; rw [if_neg (by simp)]; exact ⟨fun _ _ => trivial, skip h⟩
    · rename_i hv
      rw [(Wants.undef hg hv).ok hE hl, if_neg (by simp)]
      exact ⟨fun _ _ => trivial, skip h⟩
    · exact h.bad.elim
theorem listR_ok {ops : Array Oper} (hC : CallOk X.C W X.call) (hG : GOk X.C.G W) : ∀ (n s : Nat) (ρ : Rho) (H : CH) (w : World) (e : Tr CV) (a : Act), s + n = ops.size → SR W ρ H w → EvS ρ X.N e ds a (fun _ => False) → OkIn (listR X ds ops (ops.toList.drop s) e H K) L →
    (∀ ρ' e' H' a' w', Rho.le ρ ρ' → SR W ρ' H' w' → EvS ρ' X.N e' ds a' (fun _ => False) → OkIn (K e' H') L → Q .normal a' w') → PanOk X W L ρ Q → wpOpsIn (FE rb) 0 X.C.P ops Q (List.range' s n) a w := by
  intro n
  induction n with
  | zero =>
    intro s ρ H w e a hs hS hE h hk hp
    rw [List.drop_eq_nil_of_le (by simp; omega)] at h
    exact hk ρ e H a w (Rho.le.refl _) hS hE h
  | succ n ih =>
    intro s ρ H w e a hs hS hE h hk hp
    rw [List.range'_succ]
    have hlt : s < ops.size := by omega
    have hd : ops.toList.drop s = ops[s] :: ops.toList.drop (s + 1) := by
      rw [List.drop_eq_getElem_cons (by simpa using hlt)]
      simp
    rw [hd] at h
    have h : OkIn (stepO X ds ops ops[s] e H fun e H => listR X ds ops (ops.toList.drop (s + 1)) e H K) L := h
    simp only [wpOpsIn, Array.getElem?_eq_getElem hlt]
    exact stepO_ok hC hG hS hE ops[s] (fun _ _ h => h) h (fun v H' ρ' u w' hk' hle hS' hv => ih (s + 1) ρ' H' w' _ _ (by omega) hS' (hE.put hle _ hv) hk' (fun r e' H'' a' w'' g1 g2 g3 g4 => hk r e' H'' a' w'' (hle.trans g1) g2 g3 g4) (hp.mono hle)) hp
end
end Go.Proofs.Yteeifedpabcehaa.Cx

namespace Go.Proofs.Yteeifedpabcehaa.Cx
open Go.RowKit Go.Proofs.Yteeifedpabcehaa.Bm

/-! What is surely the same. -/
theorem ceqF_spec : ∀ (n : Nat) (x y : CV), ceqF n x y = true → x = y
  | 0, _, _, h => by cases h
  | n + 1, x, y, h => by
    have lists : ∀ (a b : List CV), (List.rec (motive := fun _ => List CV → Bool) (fun b => match b with
        | [] => true
        | _ => false) (fun x _ r b => match b with
        | [] => false
        | y :: ys => ceqF n x y && r ys) a : List CV → Bool) b = true → a = b := by
      intro a
      induction a with
      | nil => intro b h; cases b with
        | nil => rfl
        | cons y ys => cases h
      | cons x xs ih =>
        intro b h
        cases b with
        | nil => cases h
        | cons y ys =>
          have h : (ceqF n x y && _) = true := h
          rw [Bool.and_eq_true] at h
          rw [ceqF_spec n x y h.1, ih ys h.2]
    unfold ceqF at h
    simp only at h
    split at h
    · rw [Bool.and_eq_true] at h; rw [eqK_spec h.1]; have := h.2; rw [eqI_eq] at this; rw [of_decide_eq_true this]
    · rename_i a b; cases a <;> cases b <;> first | rfl | cases h
    · rw [lbeq_eq] at h; rw [of_decide_eq_true h]
    · rw [Bool.and_eq_true] at h; rw [Nat.eq_of_beq_eq_true h.1, Nat.eq_of_beq_eq_true h.2]
    · rw [Bool.and_eq_true] at h; rw [Nat.eq_of_beq_eq_true h.1, Nat.eq_of_beq_eq_true h.2]
    · simp only [Bool.and_eq_true] at h
      obtain ⟨⟨⟨⟨h1, h2⟩, h3⟩, h4⟩, h5⟩ := h
      rw [Nat.eq_of_beq_eq_true h1, Nat.eq_of_beq_eq_true h2, Nat.eq_of_beq_eq_true h3, Nat.eq_of_beq_eq_true h4]
      split at h5
      · rfl
      · rw [Nat.eq_of_beq_eq_true h5]
      · cases h5
    · rw [Nat.eq_of_beq_eq_true h]
    · rw [Nat.eq_of_beq_eq_true h]
    · rw [lists _ _ h]
    · rw [lists _ _ h]
    · rw [Bool.and_eq_true] at h; rw [Nat.eq_of_beq_eq_true h.1, ceqF_spec n _ _ h.2]
    · simp only [Bool.and_eq_true] at h
      obtain ⟨⟨h1, h2⟩, h3⟩ := h
      have e2 := ceqF_spec n _ _ h2
      have e3 := ceqF_spec n _ _ h3
      injection e2 with e2
      injection e3 with e3
      rw [Nat.eq_of_beq_eq_true h1, e2, e3]
    · rfl
    · rfl
    · rfl
    · rfl
    · rfl
    · rw [Nat.eq_of_beq_eq_true h]
    · rfl
    · cases h
theorem ceq_spec {x y : CV} (h : ceq x y = true) : x = y := ceqF_spec 8 x y h

/-! Plans. -/
theorem rdy_spec {o : Oper} {m : Nat} (h : rdy o m = true) : ∀ ed ∈ o.after, Region.binds .any ed = true → m.testBit ed.on = true := by
  unfold rdy at h
  intro ed hed hb
  have hed : ed ∈ o.after.toList := by simpa using hed
  generalize o.after.toList = l at h hed
  induction l with
  | nil => cases hed
  | cons x xs ih =>
    have h : (bif !(Region.binds .any x) || Nat.testBit m x.on then (List.rec (motive := fun _ => Bool) true (fun e _ r => bif !(Region.binds .any e) || Nat.testBit m e.on then r else false) xs : Bool) else false) = true := h
    cases hc : (!(Region.binds .any x) || Nat.testBit m x.on) with
    | false => rw [hc] at h; cases h
    | true =>
      rw [hc] at h
      rcases List.mem_cons.1 hed with rfl | hed
      · simpa [hb] using hc
      · exact ih h hed
theorem rdy_of {o : Oper} {m : Nat} (h : ∀ ed ∈ o.after, Region.binds .any ed = true → m.testBit ed.on = true) : rdy o m = true := by
  unfold rdy
  have h : ∀ ed ∈ o.after.toList, Region.binds .any ed = true → m.testBit ed.on = true := fun ed hed => h ed (by simpa using hed)
  generalize o.after.toList = l at h
  induction l with
  | nil => rfl
  | cons x xs ih =>
    show (bif !(Region.binds .any x) || Nat.testBit m x.on then (List.rec (motive := fun _ => Bool) true (fun e _ r => bif !(Region.binds .any e) || Nat.testBit m e.on then r else false) xs : Bool) else false) = true
    have : (!(Region.binds .any x) || Nat.testBit m x.on) = true := by
      cases hb : Region.binds .any x with
      | false => rfl
      | true => simpa using h x (List.mem_cons_self ..) hb
    rw [this]
    exact ih fun ed hed => h ed (List.mem_cons_of_mem _ hed)
theorem cands_spec (T : TTr) (vs : List Nat) (eff : Bool) (m : Nat) : ∀ (l : List Oper) (s i : Nat), i ∈ cands T vs eff m l s ↔ ∃ k o, l[k]? = some o ∧ i = s + k ∧ m.testBit i = false ∧ isE T vs o = eff ∧ rdy o m = true
  | [], s, i => by
    show i ∈ [] ↔ _
    simp
  | o :: l, s, i => by
    have ih := cands_spec T vs eff m l (s + 1) i
    have step : i ∈ cands T vs eff m (o :: l) s ↔ (i = s ∧ m.testBit s = false ∧ isE T vs o = eff ∧ rdy o m = true) ∨ i ∈ cands T vs eff m l (s + 1) := by
      show i ∈ (bif !(Nat.testBit m s) && (isE T vs o == eff) && rdy o m then s :: cands T vs eff m l (s + 1) else cands T vs eff m l (s + 1)) ↔ _
      cases hc : (!(Nat.testBit m s) && (isE T vs o == eff) && rdy o m) with
      | true =>
        simp only [Bool.and_eq_true, Bool.not_eq_true', beq_iff_eq] at hc
        simp only [cond_true, List.mem_cons]
        constructor
        · rintro (h | h)
          · exact .inl ⟨h, hc.1.1, hc.1.2, hc.2⟩
          · exact .inr h
        · rintro (h | h)
          · exact .inl h.1
          · exact .inr h
      | false =>
        simp only [cond_false]
        constructor
        · exact .inr
        · rintro (⟨_, h1, h2, h3⟩ | h)
          · simp [h1, h2, h3] at hc
          · exact h
    rw [step, ih]
    constructor
    · rintro (⟨rfl, h⟩ | ⟨k, o', h1, h2, h3⟩)
      · exact ⟨0, o, rfl, rfl, h⟩
      · exact ⟨k + 1, o', by simpa using h1, by omega, h3⟩
    · rintro ⟨k, o', h1, h2, h3⟩
      cases k with
      | zero =>
        have h1 : some o = some o' := h1
        injection h1 with h1
        subst h1
        have : i = s := by omega
        subst this
        exact .inl ⟨rfl, h3⟩
      | succ k => exact .inr ⟨k, o', by simpa using h1, by omega, h3⟩
theorem again_spec (T : TTr) (vs : List Nat) (mm m : Nat) : ∀ (l : List Oper) (s k : Nat) (o : Oper), l[k]? = some o → m.testBit (s + k) = true → isRd T o.op = true → isE T vs o = false → mm.testBit (s + k) = false → s + k ∈ again T vs mm m l s
  | [], _, _, _, h, _, _, _, _ => by simp at h
  | o :: l, s, k, o', h, h1, h2, h3, h4 => by
    show s + k ∈ (bif Nat.testBit m s && isRd T o.op && !(isE T vs o) && !(Nat.testBit mm s) then s :: again T vs mm m l (s + 1) else again T vs mm m l (s + 1))
    cases k with
    | zero =>
      have h : some o = some o' := h
      injection h with h
      subst h
      have h1 : m.testBit s = true := h1
      have h4 : mm.testBit s = false := h4
      rw [h1, h2, h3, h4]
      exact List.mem_cons_self ..
    | succ k =>
      have := again_spec T vs mm m l (s + 1) k o' (by simpa using h) (by rw [show s + 1 + k = s + (k + 1) by omega]; exact h1) h2 h3 (by rw [show s + 1 + k = s + (k + 1) by omega]; exact h4)
      rw [show s + 1 + k = s + (k + 1) by omega] at this
      cases (Nat.testBit m s && isRd T o.op && !(isE T vs o) && !(Nat.testBit mm s)) with
      | true => exact List.mem_cons_of_mem _ this
      | false => exact this
/-! What lies behind an operation. -/
noncomputable def maskOf (acc : List Nat) (o : Oper) : Nat := List.rec (motive := fun _ => Nat) 0 (fun e _ s => bif Region.binds .any e then Nat.lor s (Nat.lor (2 ^ e.on) ((nth acc e.on).getD 0)) else s) o.after.toList
theorem masks_cons (o : Oper) (l : List Oper) (acc : List Nat) : masks (o :: l) acc = masks l (catL acc [maskOf acc o]) := by
  show natK (maskOf acc o) (fun m => masks l (catL acc [m])) = _
  rw [natK_eq]
theorem maskOf_spec {D : Nat → Prop} {acc : List Nat} {o : Oper} (h : ∀ ed ∈ o.after, Region.binds .any ed = true → D ed.on ∧ ∀ i, ((nth acc ed.on).getD 0).testBit i = true → D i) : ∀ i, (maskOf acc o).testBit i = true → D i := by
  unfold maskOf
  have h : ∀ ed ∈ o.after.toList, Region.binds .any ed = true → D ed.on ∧ ∀ i, ((nth acc ed.on).getD 0).testBit i = true → D i := fun ed hed => h ed (by simpa using hed)
  generalize o.after.toList = l at h
  induction l with
  | nil => intro i hi; simp at hi
  | cons x xs ih =>
    have ih := ih fun ed hed => h ed (List.mem_cons_of_mem _ hed)
    intro i hi
    have hi : (bif Region.binds .any x then Nat.lor (List.rec (motive := fun _ => Nat) 0 (fun e _ s => bif Region.binds .any e then Nat.lor s (Nat.lor (2 ^ e.on) ((nth acc e.on).getD 0)) else s) xs : Nat) (Nat.lor (2 ^ x.on) ((nth acc x.on).getD 0)) else (List.rec (motive := fun _ => Nat) 0 (fun e _ s => bif Region.binds .any e then Nat.lor s (Nat.lor (2 ^ e.on) ((nth acc e.on).getD 0)) else s) xs : Nat)).testBit i = true := hi
    cases hb : Region.binds .any x with
    | false => rw [hb] at hi; exact ih i hi
    | true =>
      rw [hb] at hi
      obtain ⟨h1, h2⟩ := h x (List.mem_cons_self ..) hb
      simp only [cond_true] at hi
      have hi : (_ ||| (2 ^ x.on ||| ((nth acc x.on).getD 0))).testBit i = true := hi
      rw [Nat.testBit_or, Nat.testBit_or, Bool.or_eq_true, Bool.or_eq_true] at hi
      rcases hi with hi | hi | hi
      · exact ih i hi
      · rw [Nat.testBit_two_pow] at hi
        have : x.on = i := of_decide_eq_true hi
        rw [← this]; exact h1
      · exact h2 i hi
/-- What is behind an operation lies in every set that is closed downwards. -/
def MaskOk (ops : List Oper) (k : Nat) (m : Nat) : Prop := ∀ (D : Nat → Prop) (o : Oper), (∀ i o, ops[i]? = some o → D i → ∀ ed ∈ o.after, Region.binds .any ed = true → D ed.on) → ops[k]? = some o →
  (∀ ed ∈ o.after, Region.binds .any ed = true → D ed.on) → ∀ i, m.testBit i = true → D i
theorem masks_spec (ops : List Oper) : ∀ (l : List Oper) (acc : List Nat), ops = ops.take acc.length ++ l → acc.length ≤ ops.length → (∀ k m, acc[k]? = some m → MaskOk ops k m) → ∀ k m, (masks l acc)[k]? = some m → MaskOk ops k m
  | [], acc, _, _, h => h
  | o :: l, acc, hs, hle, h => by
    rw [masks_cons, catL_eq]
    have ho : ops[acc.length]? = some o := by
      rw [hs, List.getElem?_append_right (by simp [Nat.min_eq_left hle])]
      simp [Nat.min_eq_left hle]
    have hlt := (List.getElem?_eq_some_iff.1 ho).1
    refine masks_spec ops l _ ?_ (by simp; omega) fun k m hk => ?_
    · rw [List.length_append, List.length_singleton]
      have : ops.take (acc.length + 1) = ops.take acc.length ++ [o] := by
        rw [List.take_add_one, ho]; rfl
      rw [this, List.append_assoc]
      exact hs
    · rw [List.getElem?_append] at hk
      split at hk
      · exact h k m hk
      · rename_i hge
        have hk0 : k - acc.length = 0 := by
          have := (List.getElem?_eq_some_iff.1 hk).1
          simp at this
          omega
        rw [hk0] at hk
        have hk : some (maskOf acc o) = some m := hk
        injection hk with hk
        subst hk
        have hkk : k = acc.length := by omega
        subst hkk
        intro D o' hD ho' hed
        rw [ho] at ho'
        injection ho' with ho'
        subst ho'
        refine maskOf_spec fun ed he hb => ⟨hed ed he hb, fun i hi => ?_⟩
        rw [nth_eq] at hi
        cases ha : acc[ed.on]? with
        | none => rw [ha] at hi; simp at hi
        | some m' =>
          rw [ha] at hi
          have hlt' : ed.on < ops.length := Nat.lt_of_lt_of_le (List.getElem?_eq_some_iff.1 ha).1 hle
          exact h ed.on m' ha D ops[ed.on] hD (List.getElem?_eq_getElem hlt') (hD ed.on _ (List.getElem?_eq_getElem hlt') (hed ed he hb)) i hi
theorem mask_ok {ops : List Oper} {j : Nat} {D : Nat → Prop} {o : Oper} (hD : ∀ i o, ops[i]? = some o → D i → ∀ ed ∈ o.after, Region.binds .any ed = true → D ed.on) (ho : ops[j]? = some o) (h : ∀ ed ∈ o.after, Region.binds .any ed = true → D ed.on) :
    ∀ i, ((nth (masks ops []) j).getD 0).testBit i = true → D i := by
  intro i hi
  rw [nth_eq] at hi
  cases hm : (masks ops [])[j]? with
  | none => rw [hm] at hi; simp at hi
  | some m =>
    rw [hm] at hi
    exact masks_spec ops ops [] rfl (Nat.zero_le _) (fun k m hk => by simp at hk) j m hm D o hD ho h i hi
/-! What a region's slots are checked for. -/
theorem memN_iff {x : Nat} : ∀ {l : List Nat}, memN x l = true ↔ x ∈ l
  | [] => by show false = true ↔ _; simp
  | y :: ys => by
    show (bif Nat.beq x y then true else memN x ys) = true ↔ _
    cases h : Nat.beq x y with
    | true => have := Nat.eq_of_beq_eq_true h; subst this; simp
    | false =>
      have hne : x ≠ y := fun e => by subst e; simp at h
      simp only [cond_false]
      rw [memN_iff (l := ys)]
      simp [hne]
theorem direct_spec {k : Nat} {o : Oper} (h : direct k o = true) : ∃ ed ∈ o.after, Region.binds .any ed = true ∧ ed.on = k := by
  unfold direct at h
  have : ∃ ed ∈ o.after.toList, Region.binds .any ed = true ∧ ed.on = k := by
    generalize o.after.toList = l at h
    induction l with
    | nil => cases h
    | cons x xs ih =>
      have h : (bif Region.binds .any x && Nat.beq x.on k then true else (List.rec (motive := fun _ => Bool) false (fun e _ r => bif Region.binds .any e && Nat.beq e.on k then true else r) xs : Bool)) = true := h
      cases hc : (Region.binds .any x && Nat.beq x.on k) with
      | true =>
        rw [Bool.and_eq_true] at hc
        exact ⟨x, List.mem_cons_self .., hc.1, Nat.eq_of_beq_eq_true hc.2⟩
      | false =>
        rw [hc] at h
        obtain ⟨ed, h1, h2⟩ := ih h
        exact ⟨ed, List.mem_cons_of_mem _ h1, h2⟩
  obtain ⟨ed, h1, h2⟩ := this
  exact ⟨ed, by simpa using h1, h2⟩
theorem chkOne_spec {ops : List Oper} {ms : List Nat} {i : Nat} {o : Oper} : ∀ (l : List Oper) (s k : Nat) (o' : Oper) (t : Nat), chkOne ops ms i o l s = true → l[k]? = some o' → o'.dst = some t →
    (t ∈ looksL ops o → (direct (s + k) o || Nat.testBit ((nth ms (s + k)).getD 0) i) = true) ∧ (i ≠ s + k → o.dst ≠ some t)
  | [], _, _, _, _, _, h, _ => by simp at h
  | x :: l, s, k, o', t, hc, h, ht => by
    cases k with
    | zero =>
      have h : some x = some o' := h
      injection h with h
      subst h
      have hc : (match x.dst with
        | none => fun r => r
        | some t => fun r => bif (bif memN t (looksL ops o) then direct s o || Nat.testBit ((nth ms s).getD 0) i else true) && (bif Nat.beq i s then true else !(memN t (dstL (some o)))) then r else false : Bool → Bool) (chkOne ops ms i o l (s + 1)) = true := hc
      rw [ht] at hc
      simp only at hc
      cases hb : ((bif memN t (looksL ops o) then direct s o || Nat.testBit ((nth ms s).getD 0) i else true) && (bif Nat.beq i s then true else !(memN t (dstL (some o))))) with
      | false => rw [hb] at hc; cases hc
      | true =>
        rw [Bool.and_eq_true] at hb
        refine ⟨fun hm => ?_, fun hne he => ?_⟩
        · have := memN_iff.2 hm
          rw [this] at hb
          exact hb.1
        · have h0 : Nat.beq i s = false := by
            cases hbe : Nat.beq i s with
            | false => rfl
            | true => exact absurd (Nat.eq_of_beq_eq_true hbe) hne
          rw [h0] at hb
          have h2 := hb.2
          simp only [cond_false, dstL, he] at h2
          have : memN t [t] = true := memN_iff.2 (List.mem_singleton.2 rfl)
          rw [this] at h2
          cases h2
    | succ k =>
      have hc : (match x.dst with
        | none => fun r => r
        | some t => fun r => bif (bif memN t (looksL ops o) then direct s o || Nat.testBit ((nth ms s).getD 0) i else true) && (bif Nat.beq i s then true else !(memN t (dstL (some o)))) then r else false : Bool → Bool) (chkOne ops ms i o l (s + 1)) = true := hc
      have hc : chkOne ops ms i o l (s + 1) = true := by
        cases hd : x.dst with
        | none => rw [hd] at hc; exact hc
        | some t' =>
          rw [hd] at hc
          simp only at hc
          cases hb : ((bif memN t' (looksL ops o) then direct s o || Nat.testBit ((nth ms s).getD 0) i else true) && (bif Nat.beq i s then true else !(memN t' (dstL (some o))))) with
          | false => rw [hb] at hc; cases hc
          | true => rw [hb] at hc; exact hc
      have := chkOne_spec l (s + 1) k o' t hc (by simpa using h) ht
      rw [show s + 1 + k = s + (k + 1) by omega] at this
      exact this
theorem chkF_spec {ops : List Oper} {ms : List Nat} : ∀ (l : List Oper) (s i : Nat) (o : Oper), chkF ops ms l s = true → l[i]? = some o → chkOne ops ms (s + i) o ops 0 = true
  | [], _, _, _, _, h => by simp at h
  | x :: l, s, i, o, hc, h => by
    have hc : (bif chkOne ops ms s x ops 0 then chkF ops ms l (s + 1) else false) = true := hc
    cases hb : chkOne ops ms s x ops 0 with
    | false => rw [hb] at hc; cases hc
    | true =>
      rw [hb] at hc
      cases i with
      | zero =>
        have h : some x = some o := h
        injection h with h
        subst h
        exact hb
      | succ i =>
        have := chkF_spec l (s + 1) i o hc (by simpa using h)
        rw [show s + 1 + i = s + (i + 1) by omega] at this
        exact this
theorem anyLook_of {ops : List Oper} {t k : Nat} : ∀ {l : List Oper} {o : Oper}, o ∈ l → t ∈ looksL ops o → direct k o = false → anyLook ops t k l = true
  | [], _, h, _, _ => by cases h
  | x :: l, o, h, h1, h2 => by
    show (bif memN t (looksL ops x) && !(direct k x) then true else anyLook ops t k l) = true
    rcases List.mem_cons.1 h with rfl | h
    · rw [memN_iff.2 h1, h2]; rfl
    · rw [anyLook_of h h1 h2]
      cases (memN t (looksL ops x) && !(direct k x)) <;> rfl
theorem ovsF_cons (ops : List Oper) (o : Oper) (l : List Oper) (k : Nat) : ovsF ops (o :: l) k = match o.dst with
  | none => ovsF ops l (k + 1)
  | some t => bif anyLook ops t k ops then t :: ovsF ops l (k + 1) else ovsF ops l (k + 1) := rfl
theorem ovsF_of {ops : List Oper} {t : Nat} : ∀ {l : List Oper} {s k : Nat} {o : Oper}, l[k]? = some o → o.dst = some t → anyLook ops t (s + k) ops = true → t ∈ ovsF ops l s
  | [], _, _, _, h, _, _ => by simp at h
  | x :: l, s, k, o, h, hd, ha => by
    rw [ovsF_cons]
    cases k with
    | zero =>
      have h : some x = some o := h
      injection h with h
      subst h
      rw [hd]
      have ha : anyLook ops t s ops = true := ha
      simp only [ha, cond_true]
      exact List.mem_cons_self ..
    | succ k =>
      have := ovsF_of (s := s + 1) (by simpa using h) hd (by rw [show s + 1 + k = s + (k + 1) by omega]; exact ha)
      split
      · exact this
      · rename_i t' _
        cases anyLook ops t' s ops with
        | true => exact List.mem_cons_of_mem _ this
        | false => exact this
theorem chkR_spec {T : TTr} {ops : Array Oper} (h : chkR ops.toList = true) {i k : Nat} {o o' : Oper} {t : Nat} (hi : ops[i]? = some o) (hk : ops[k]? = some o') (ht : o'.dst = some t) :
    (t ∈ looksL ops.toList o → (∃ ed ∈ o.after, Region.binds .any ed = true ∧ ed.on = k) ∨ isE T (ovsL ops.toList) o' = true ∧ ((nth (masks ops.toList []) k).getD 0).testBit i = true) ∧ (i ≠ k → o.dst ≠ some t) := by
  have h1 := chkF_spec ops.toList 0 i o h (by simpa using hi)
  rw [Nat.zero_add] at h1
  obtain ⟨h2, h3⟩ := chkOne_spec ops.toList 0 k o' t h1 (by simpa using hk) ht
  rw [Nat.zero_add] at h2 h3
  refine ⟨fun hm => ?_, h3⟩
  have h4 := h2 hm
  cases hd : direct k o with
  | true => exact .inl (direct_spec hd)
  | false =>
    rw [hd, Bool.false_or] at h4
    refine .inr ⟨?_, h4⟩
    have hv : t ∈ ovsL ops.toList := ovsF_of (s := 0) (k := k) (by simpa using hk) ht (by rw [Nat.zero_add]; exact anyLook_of (List.mem_of_getElem? (by simpa using hi)) hm hd)
    unfold isE isOv
    rw [ht]
    simp only [memN_iff.2 hv, Bool.or_true]
end Go.Proofs.Yteeifedpabcehaa.Cx

namespace Go.Proofs.Yteeifedpabcehaa.Cx
open Go.RowKit Go.Proofs.Yteeifedpabcehaa.Bm

theorem lenC_pure (T : TTr) (H H' : CH) (t : Nat) (x : CV) (h : (match T t with
    | some d => isRd.isMp d
    | none => true) = false) : lenC T H t x = lenC T H' t x := by
  unfold lenC
  cases hT : T t with
  | none => rfl
  | some d =>
    rw [hT] at h
    simp only [isRd.isMp] at h ⊢
    generalize d.k = kk at h ⊢
    cases kk <;> first | (cases h; done) | (cases x <;> first | rfl | (rename_i y; cases y <;> rfl))
theorem opC_pure (C : Cf) (g : Operand → CV) (H H' : CH) (op : Op) (h1 : isEff C.T op = false) (h2 : isRd C.T op = false) : opC C g H op = opC C g H' op := by
  cases op <;> first | rfl | (cases h1; done) | (cases h2; done) | skip
  rename_i c
  obtain ⟨callee, ⟨al⟩, ⟨ts⟩⟩ := c
  cases callee with
  | value f => cases h1
  | invoke r n => cases h1
  | builtin b =>
    cases b <;> first | (cases h1; done) | rfl | skip
    case len =>
      show builtinC C.T g H .len ts al = builtinC C.T g H' .len ts al
      cases ts with
      | nil => cases h2
      | cons t ts =>
        cases al with
        | nil => rfl
        | cons x xs =>
          show lenC C.T H t (g x) = lenC C.T H' t (g x)
          exact lenC_pure C.T H H' t (g x) h2
    all_goals
      rcases ts with _ | ⟨t, ts⟩ <;> rcases al with _ | ⟨x, _ | ⟨y, _ | ⟨z, al⟩⟩⟩ <;> rfl
theorem readS_congr {C : Cf} {ops : Array Oper} {o : Oper} {e e' : Tr CV} {H H' : CH} (h : ∀ t ∈ looksL ops.toList o, e.get t = e'.get t) (hH : H = H' ∨ isEff C.T o.op = false ∧ isRd C.T o.op = false) :
    readS C ops.toList o e H = readS C ops.toList o e' H' := by
  have h1 : opC C (opd e) H o.op = opC C (opd e') H' o.op := by
    rw [opC_congr C H (g := opd e) (g' := opd e') o.op fun x hx => by
      cases x with
      | tmp t => rw [opd_tmp, opd_tmp, h t (looks_ops hx rfl)]
      | _ => rfl]
    rcases hH with rfl | ⟨h1, h2⟩
    · rfl
    · exact opC_pure C _ H H' o.op h1 h2
  unfold readS
  cases hg : o.guard with
  | none => simp only [h1]
  | some g =>
    obtain ⟨j, want⟩ := g
    have h2 : wantV ops.toList j e = wantV ops.toList j e' := by
      unfold wantV
      rw [nth_eq]
      simp only [Array.getElem?_toList]
      cases hj : ops[j]? with
      | none => rfl
      | some oj =>
        simp only
        cases hd : oj.dst with
        | none => rfl
        | some t =>
          have := h t (looks_guard hg hj hd)
          simp only [dTmp, this]
    simp only [h1, h2]
theorem readV_some {o : Out} {v : CV} (h : readV o = some v) : o = .old v .nop ∨ o = .new v .nop := by
  unfold readV at h
  split at h
  · injection h with h; subst h; exact .inl rfl
  · injection h with h; subst h; exact .inr rfl
  · cases h
section
variable {X : Cx} {rb : Option Nat} {L : List Fin} {W : World} {ds : List Nat} {K : KT} {next : Act → World → Prop} {Q : Exit → Act → World → Prop}
theorem read_ok {S : Nat → Prop} {ρ : Rho} {H : CH} {w : World} {e : Tr CV} {a : Act} {C : Cf} {N : Nat} {ops : Array Oper} (hG : GOk C.G W) (hS : SR W ρ H w) (hE : EvS ρ N e ds a S) (o : Oper) (hl : ∀ t ∈ looksL ops.toList o, ¬ S t) {v : CV} (h : readS C ops.toList o e H = some v)
    (hn : ∀ ρ' u w', Rho.le ρ ρ' → SR W ρ' H w' → v.R ρ' u → next (a.put o.dst u) w') :
    if Region.wanted o (yielded ops a.tmps) then o.wpIn (FE rb) 0 C.P a w next Q else (∀ f, o.about C.P w a.eval = some f → (FE rb).fn f) ∧ next (a.put o.dst undef) w := by
  have main : readV (opC C (opd e) H o.op) = some v → o.wpIn (FE rb) 0 C.P a w next Q := by
    intro h
    rw [← opC_congr C H (g := mop S e) o.op fun x hx => mop_eq fun t ht => hl t (looks_ops hx ht)] at h
    refine ⟨fun _ _ => trivial, ?_⟩
    have hok := opC_ok (C := C) hG hS (mop_ok hE) (fun _ => rfl) o
    rw [Oper.semAt_eq]
    · have : ∃ u w' ρ', Did C.P (execOp a.eval o) w u w' ∧ Rho.le ρ ρ' ∧ SR W ρ' H w' ∧ v.R ρ' u := by
        rcases readV_some h with h | h
        · rw [h] at hok; exact hok
        · rw [h] at hok; exact hok
      obtain ⟨u, w', ρ', hd, h2, h3, h4⟩ := this
      have := hn ρ' u w' h2 h3 h4
      rcases hd with hd | ⟨hd, rfl⟩
      · rw [hd]; exact this
      · rw [hd]; exact this
    · intro c hc
      rw [hc] at h
      cases h
  have skip : v = .tup [] → next (a.put o.dst undef) w := fun h => hn ρ undef w (Rho.le.refl _) hS (by rw [h]; exact R_unit)
  unfold readS at h
  cases hg : o.guard with
  | none =>
    rw [hg] at h
    rw [(Wants.free (e := e) hg).ok hE hl, if_pos rfl]
    exact main h
  | some g =>
    obtain ⟨j, want⟩ := g
    rw [hg] at h
    simp only at h
    split at h
    · rename_i b hv
      rw [(Wants.yes hg hv).ok hE hl]
      cases hb : wBool b want with
      | true => rw [hb] at h; rw [if_pos rfl]; exact main h
      | false => rw [hb] at h; rw [if_neg (by simp)]; injection h with h; exact ⟨fun _ _ => trivial, skip h.symm⟩
    · rename_i hv
      rw [(Wants.undef hg hv).ok hE hl, if_neg (by simp)]
      injection h with h
      exact ⟨fun _ _ => trivial, skip h.symm⟩
    · cases h
/-! Where a region stands: what the model has done, what is done ahead. -/
def Lst (l : Array Bool) (i : Nat) : Prop := l.getD i false = true
def PendOk (ops : Array Oper) (l : Array Bool) : List Nat → Prop
  | [] => True
  | i :: rest => (∀ o, ops[i]? = some o → ∀ ed ∈ o.after, Region.binds .any ed = true → Lst l ed.on ∨ ed.on ∈ rest) ∧ PendOk ops l rest
structure Inv (T : TTr) (ops : Array Oper) (l : Array Bool) (m : Nat) (pend : List Nat) : Prop where
  size : l.size = ops.size
  split : ∀ i, m.testBit i = true ↔ Lst l i ∨ i ∈ pend
  pd : ∀ i ∈ pend, (∃ o, ops[i]? = some o ∧ isE T (ovsL ops.toList) o = false) ∧ ¬ Lst l i
  nodup : pend.Nodup
  order : PendOk ops l pend
  down : ∀ i o, ops[i]? = some o → Lst l i → ∀ ed ∈ o.after, Region.binds .any ed = true → Lst l ed.on
def Sl (ops : Array Oper) (pend : List Nat) (t : Nat) : Prop := ∃ i ∈ pend, ∃ o, ops[i]? = some o ∧ o.dst = some t
def Ahead (C : Cf) (N : Nat) (ops : Array Oper) (e : Tr CV) (H : CH) (i : Nat) : Prop := ∀ o, ops[i]? = some o → ∃ v, readS C ops.toList o e H = some v ∧ ∀ t, o.dst = some t → (t < N ∧ e.get t = some v) ∨ e.get t = none
theorem PendOk.edge {ops : Array Oper} {l : Array Bool} : ∀ {pend : List Nat}, PendOk ops l pend → ∀ i ∈ pend, ∀ o, ops[i]? = some o → ∀ ed ∈ o.after, Region.binds .any ed = true → Lst l ed.on ∨ ed.on ∈ pend
  | [], _, i, hi, _, _, _, _, _ => by cases hi
  | j :: rest, h, i, hi, o, ho, ed, hed, hb => by
    rcases List.mem_cons.1 hi with rfl | hi
    · exact (h.1 o ho ed hed hb).imp id fun h => List.mem_cons_of_mem _ h
    · exact (h.2.edge i hi o ho ed hed hb).imp id fun h => List.mem_cons_of_mem _ h
theorem PendOk.first {ops : Array Oper} {l : Array Bool} : ∀ {pend : List Nat}, PendOk ops l pend → pend ≠ [] → ∃ i ∈ pend, ∀ o, ops[i]? = some o → ∀ ed ∈ o.after, Region.binds .any ed = true → Lst l ed.on
  | [], _, h => absurd rfl h
  | [i], h, _ => ⟨i, List.mem_singleton.2 rfl, fun o ho ed hed hb => (h.1 o ho ed hed hb).resolve_right (by simp)⟩
  | i :: j :: rest, h, _ => let ⟨k, h1, h2⟩ := h.2.first (by simp); ⟨k, List.mem_cons_of_mem _ h1, h2⟩
theorem PendOk.mono {ops : Array Oper} {l l' : Array Bool} (hl : ∀ i, Lst l i → Lst l' i) : ∀ {pend : List Nat}, PendOk ops l pend → PendOk ops l' pend
  | [], _ => trivial
  | _ :: _, h => ⟨fun o ho ed hed hb => (h.1 o ho ed hed hb).imp (hl _) id, h.2.mono hl⟩
theorem PendOk.erase {ops : Array Oper} {l l' : Array Bool} {i : Nat} (hl : ∀ k, Lst l k → Lst l' k) (hi : Lst l' i) : ∀ {pend : List Nat}, PendOk ops l pend → PendOk ops l' (pend.erase i)
  | [], _ => trivial
  | j :: rest, h => by
    rw [List.erase_cons]
    split
    · exact h.2.mono hl
    · refine ⟨fun o ho ed hed hb => ?_, PendOk.erase hl hi h.2⟩
      rcases h.1 o ho ed hed hb with h1 | h1
      · exact .inl (hl _ h1)
      · by_cases e : ed.on = i
        · rw [e]; exact .inl hi
        · exact .inr ((List.mem_erase_of_ne e).2 h1)
theorem lst_set {l : Array Bool} {i j : Nat} : Lst (l.setIfInBounds i true) j ↔ Lst l j ∨ (j = i ∧ i < l.size) := by
  unfold Lst
  simp only [Array.getD_eq_getD_getElem?, Array.getElem?_setIfInBounds]
  by_cases h : i = j
  · subst h
    by_cases h2 : i < l.size <;> simp [h2]
  · have : ¬ (j = i) := fun e => h e.symm
    simp [h, this]
theorem mkPlanF_succ (T : TTr) (vs : List Nat) (ops : List Oper) (ms : List Nat) (n m : Nat) : mkPlanF T vs ops ms (n + 1) m = match cands T vs false m ops 0 with
    | i :: _ => .rd i :: mkPlanF T vs ops ms n (m ||| 2 ^ i)
    | [] => (match cands T vs true m ops 0 with
      | [] => []
      | [j] => .ef j (again T vs ((nth ms j).getD 0) m ops 0) :: mkPlanF T vs ops ms n (m ||| 2 ^ j)
      | _ => [.no]) := by
  show (match cands T vs false m ops 0 with
    | i :: _ => PE.rd i :: natK (Nat.lor m (2 ^ i)) (mkPlanF T vs ops ms n)
    | [] => (match cands T vs true m ops 0 with
      | [] => []
      | [j] => .ef j (again T vs ((nth ms j).getD 0) m ops 0) :: natK (Nat.lor m (2 ^ j)) (mkPlanF T vs ops ms n)
      | _ => [.no])) = _
  simp only [natK_eq]
  rfl
theorem ready_iff {ops : Array Oper} {l : Array Bool} (hs : l.size = ops.size) {j : Nat} : j ∈ Region.ready .any ops l ↔ ¬ Lst l j ∧ ∃ o, ops[j]? = some o ∧ ∀ ed ∈ o.after, Region.binds .any ed = true → Lst l ed.on := by
  rw [mem_ready]
  constructor
  · rintro ⟨h1, o, h2, h3⟩
    refine ⟨fun h => ?_, o, h2, h3⟩
    have hlt : j < l.size := by rw [hs]; exact (Array.getElem?_eq_some_iff.1 h2).1
    unfold Lst at h
    simp [Array.getD_eq_getD_getElem?, hlt] at h h1
    rw [h] at h1
    cases h1
  · rintro ⟨h1, o, h2, h3⟩
    refine ⟨?_, o, h2, h3⟩
    have hlt : j < l.size := by rw [hs]; exact (Array.getElem?_eq_some_iff.1 h2).1
    unfold Lst at h1
    simp [Array.getD_eq_getD_getElem?, hlt] at h1 ⊢
    exact h1
end
end Go.Proofs.Yteeifedpabcehaa.Cx

namespace Go.Proofs.Yteeifedpabcehaa.Cx
open Go.RowKit Go.Proofs.Yteeifedpabcehaa.Bm

section
variable {X : Cx} {rb : Option Nat} {L : List Fin} {W : World} {ds : List Nat} {K : KT} {Q : Exit → Act → World → Prop} {ops : Array Oper}
structure Rel (X : Cx) (W : World) (ds : List Nat) (ops : Array Oper) (ρ : Rho) (H : CH) (w : World) (e : Tr CV) (a : Act) (pend : List Nat) : Prop where
  sr : SR W ρ H w
  ev : EvS ρ X.N e ds a (Sl ops pend)
  ah : ∀ i ∈ pend, Ahead X.C X.N ops e H i
noncomputable abbrev plan (X : Cx) (ops : Array Oper) (n m : Nat) : List PE := mkPlanF X.C.T (ovsL ops.toList) ops.toList (masks ops.toList []) n m
theorem testBit_add {m i j : Nat} : (m ||| 2 ^ i).testBit j = true ↔ m.testBit j = true ∨ j = i := by
  rw [Nat.testBit_or, Bool.or_eq_true, Nat.testBit_two_pow, decide_eq_true_eq]
  exact or_congr Iff.rfl eq_comm
/-- What can be read is read. -/
theorem advance (hchk : chkR ops.toList = true) {l : Array Bool} {ρ : Rho} {H : CH} {w : World} {a : Act} : ∀ (n m : Nat) (pend : List Nat) (e : Tr CV), Inv X.C.T ops l m pend → Rel X W ds ops ρ H w e a pend → OkIn (drawR X ds ops (plan X ops n m) e H K) L →
    ∃ n' m' pend' e', cands X.C.T (ovsL ops.toList) false m' ops.toList 0 = [] ∧ Inv X.C.T ops l m' pend' ∧ Rel X W ds ops ρ H w e' a pend' ∧ OkIn (drawR X ds ops (plan X ops n' m') e' H K) L
  | 0, _, _, _, _, _, h => (OkIn.bad h).elim
  | n + 1, m, pend, e, hI, hR, h => by
    cases hc : cands X.C.T (ovsL ops.toList) false m ops.toList 0 with
    | nil => exact ⟨n + 1, m, pend, e, hc, hI, hR, h⟩
    | cons i rest =>
      have hp : plan X ops (n + 1) m = .rd i :: plan X ops n (m ||| 2 ^ i) := by
        show mkPlanF _ _ _ _ _ _ = _
        rw [mkPlanF_succ, hc]
      rw [hp] at h
      have h : OkIn (pRd X ops i e H fun e H => drawR X ds ops (plan X ops n (m ||| 2 ^ i)) e H K) L := h
      obtain ⟨k, o, ho, hik, hbit, heff, hrdy⟩ := (cands_spec X.C.T (ovsL ops.toList) false m ops.toList 0 i).1 (by rw [hc]; exact List.mem_cons_self ..)
      rw [Nat.zero_add] at hik
      subst hik
      have ho' : ops[i]? = some o := by simpa using ho
      have hedge := rdy_spec hrdy
      unfold pRd at h
      rw [nth_eq, ho] at h
      simp only at h
      cases hv : readS X.C ops.toList o e H with
      | none => rw [hv] at h; exact (OkIn.bad h).elim
      | some v =>
        rw [hv] at h
        simp only [CV.fK_eq, putK_eq] at h
        have hnl : ¬ Lst l i := fun hl => by rw [(hI.split i).2 (.inl hl)] at hbit; cases hbit
        have hnp : i ∉ pend := fun hl => by rw [(hI.split i).2 (.inr hl)] at hbit; cases hbit
        have hself : ∀ t ∈ looksL ops.toList o, o.dst ≠ some t := fun t ht hd => by
          obtain ⟨ed, h1, h2, h3⟩ := ((chkR_spec (T := X.C.T) hchk ho' ho' hd).1 ht).resolve_right fun h => (by rw [heff] at h; cases h.1)
          have := hedge ed h1 h2
          rw [h3, hbit] at this
          cases this
        refine advance hchk n (m ||| 2 ^ i) (i :: pend) (putd X.N e o.dst v) ⟨hI.size, fun j => ?_, fun j hj => ?_, List.nodup_cons.2 ⟨hnp, hI.nodup⟩, ⟨fun o2 ho2 ed hed hb => ?_, hI.order⟩, hI.down⟩ ⟨hR.sr, ⟨hR.ev.size, fun t x hx hs => ?_, hR.ev.marks⟩, fun j hj => ?_⟩ h
        · rw [testBit_add, hI.split j, List.mem_cons, or_assoc, or_comm (a := j ∈ pend)]
        · rcases List.mem_cons.1 hj with rfl | hj
          · exact ⟨⟨o, ho', heff⟩, hnl⟩
          · exact hI.pd j hj
        · rw [ho'] at ho2
          injection ho2 with ho2
          subst ho2
          exact (hI.split _).1 (hedge ed hed hb)
        · rw [get_putd] at hx
          split at hx
          · rename_i hd
            exact absurd ⟨i, List.mem_cons_self .., o, ho', hd.1⟩ hs
          · exact hR.ev.slot t x hx fun ⟨j, hj, o2, h1, h2⟩ => hs ⟨j, List.mem_cons_of_mem _ hj, o2, h1, h2⟩
        · intro o2 ho2
          rcases List.mem_cons.1 hj with rfl | hj
          · rw [ho'] at ho2
            injection ho2 with ho2
            subst ho2
            refine ⟨v, ?_, fun t ht => ?_⟩
            · rw [← hv]
              refine (readS_congr (fun t ht => ?_) (.inl rfl)).symm
              rw [get_putd, if_neg fun h => hself t ht h.1]
            · rw [get_putd]
              by_cases hN : t < X.N
              · rw [if_pos ⟨ht, hN⟩]; exact .inl ⟨hN, rfl⟩
              · rw [if_neg fun h => hN h.2]
                cases hx : e.get t with
                | none => exact .inr rfl
                | some x =>
                  exact absurd (hR.ev.slot t x hx fun ⟨j2, hj2, o3, h1, h2⟩ => (chkR_spec (T := X.C.T) hchk h1 ho' ht).2 (fun e => hnp (e ▸ hj2)) h2).1 hN
          · obtain ⟨v2, g1, g2⟩ := hR.ah j hj o2 ho2
            have hne : i ≠ j := fun e => hnp (e ▸ hj)
            refine ⟨v2, ?_, fun t ht => ?_⟩
            · rw [← g1]
              refine (readS_congr (fun t ht => ?_) (.inl rfl)).symm
              rw [get_putd, if_neg]
              rintro ⟨hd, _⟩
              obtain ⟨ed, h1, h2, h3⟩ := ((chkR_spec (T := X.C.T) hchk ho2 ho' hd).1 ht).resolve_right fun h => (by rw [heff] at h; cases h.1)
              rcases hI.order.edge j hj o2 ho2 ed h1 h2 with h4 | h4
              · rw [h3] at h4; exact hnl h4
              · rw [h3] at h4; exact hnp h4
            · rw [get_putd, if_neg]
              · exact g2 t ht
              · rintro ⟨hd, _⟩
                exact (chkR_spec (T := X.C.T) hchk ho' ho2 ht).2 hne hd
/-- The region is through. -/
theorem any_done {l : Array Bool} {ρ : Rho} {H : CH} {w : World} {a : Act} {n m : Nat} {pend : List Nat} {e : Tr CV} (hb : cands X.C.T (ovsL ops.toList) false m ops.toList 0 = []) (hI : Inv X.C.T ops l m pend) (hR : Rel X W ds ops ρ H w e a pend) (h : OkIn (drawR X ds ops (plan X ops n m) e H K) L)
    (hr : Region.ready .any ops l = []) (hk : ∀ e' H' a' w' ρ', SR W ρ' H' w' → EvS ρ' X.N e' ds a' (fun _ => False) → OkIn (K e' H') L → Rho.le ρ ρ' → Q .normal a' w') : Q .normal a w := by
  have noready : ∀ i, i ∉ Region.ready .any ops l := fun i hi => by rw [hr] at hi; cases hi
  have hpend : pend = [] := by
    refine Classical.byContradiction fun hne => ?_
    obtain ⟨i, hi, hed⟩ := hI.order.first hne
    obtain ⟨⟨o, ho, _⟩, hnl⟩ := hI.pd i hi
    exact noready i ((ready_iff hI.size).2 ⟨hnl, o, ho, hed o ho⟩)
  subst hpend
  cases n with
  | zero => exact (OkIn.bad h).elim
  | succ n =>
    have hp : plan X ops (n + 1) m = _ := mkPlanF_succ ..
    rw [hp, hb] at h
    simp only at h
    cases hc : cands X.C.T (ovsL ops.toList) true m ops.toList 0 with
    | nil =>
      rw [hc] at h
      exact hk e H a w ρ hR.sr ⟨hR.ev.size, fun t x hx _ => hR.ev.slot t x hx fun ⟨i, hi, _⟩ => (by cases hi), hR.ev.marks⟩ h (Rho.le.refl _)
    | cons j rest =>
      obtain ⟨k, o, ho, hjk, hbit, heff, hrdy⟩ := (cands_spec X.C.T (ovsL ops.toList) true m ops.toList 0 j).1 (by rw [hc]; exact List.mem_cons_self ..)
      rw [Nat.zero_add] at hjk
      subst hjk
      have hnl : ¬ Lst l j := fun hl => by rw [(hI.split j).2 (.inl hl)] at hbit; cases hbit
      exact absurd ((ready_iff hI.size).2 ⟨hnl, o, by simpa using ho, fun ed hed hbd => ((hI.split _).1 (rdy_spec hrdy ed hed hbd)).resolve_right (by simp)⟩) (noready j)
def cnt (l : Array Bool) : Nat := l.toList.countP (· == true)
theorem cnt_set : ∀ {l : List Bool} {i : Nat}, l[i]? = some false → (l.set i true).countP (· == true) = l.countP (· == true) + 1
  | [], _, h => by simp at h
  | b :: l, 0, h => by
    have : b = false := by simpa using h
    subst this
    simp
  | b :: l, i + 1, h => by
    have := cnt_set (l := l) (i := i) (by simpa using h)
    simp only [List.set_cons_succ, List.countP_cons, this]
    omega
theorem cnt_full {l : List Bool} (h : l.countP (· == true) = l.length) : ∀ b ∈ l, b = true := by
  have := List.countP_eq_length.1 h
  intro b hb
  simpa using this b hb
theorem any_ok (hchk : chkR ops.toList = true) (hC : CallOk X.C W X.call) (hG : GOk X.C.G W) : ∀ (fuel : Nat) (l : Array Bool) (m n : Nat) (pend : List Nat) (ρ : Rho) (H : CH) (w : World) (e : Tr CV) (a : Act),
    cands X.C.T (ovsL ops.toList) false m ops.toList 0 = [] → Inv X.C.T ops l m pend → Rel X W ds ops ρ H w e a pend → cnt l + fuel = ops.size → OkIn (drawR X ds ops (plan X ops n m) e H K) L →
    (∀ e' H' a' w' ρ', SR W ρ' H' w' → EvS ρ' X.N e' ds a' (fun _ => False) → OkIn (K e' H') L → Rho.le ρ ρ' → Q .normal a' w') → PanOk X W L ρ Q → wpAnyIn (FE rb) 0 X.C.P .any ops Q fuel l a w := by
  intro fuel
  induction fuel with
  | zero =>
    intro l m n pend ρ H w e a hb hI hR hcnt h hk hp
    have hr : Region.ready .any ops l = [] := by
      refine List.eq_nil_iff_forall_not_mem.2 fun i hi => ?_
      obtain ⟨h1, o, h2, _⟩ := (ready_iff hI.size).1 hi
      have hlt : i < l.size := by rw [hI.size]; exact (Array.getElem?_eq_some_iff.1 h2).1
      have hfull := cnt_full (l := l.toList) (by have := hI.size; unfold cnt at hcnt; rw [Array.length_toList]; omega) l[i] (by simp)
      exact h1 (by unfold Lst; simp [Array.getD_eq_getD_getElem?, hlt, hfull])
    exact ⟨hr, any_done hb hI hR h hr hk⟩
  | succ fuel ih =>
    intro l m n pend ρ H w e a hb hI hR hcnt h hk hp
    refine ⟨fun hr => any_done hb hI hR h hr hk, fun i hi => ?_⟩
    obtain ⟨hnl, o, ho, hedge⟩ := (ready_iff hI.size).1 hi
    have hlt : i < l.size := by rw [hI.size]; exact (Array.getElem?_eq_some_iff.1 ho).1
    have hcnt' : cnt (l.setIfInBounds i true) + fuel = ops.size := by
      have hf : l.toList[i]? = some false := by
        have : l[i]? = some l[i] := Array.getElem?_eq_getElem hlt
        unfold Lst at hnl
        simp [Array.getD_eq_getD_getElem?, hlt] at hnl
        simp [hlt, hnl]
      have := cnt_set hf
      unfold cnt at hcnt ⊢
      rw [Array.toList_setIfInBounds, this]
      omega
    have hlst : ∀ k, Lst l k → Lst (l.setIfInBounds i true) k := fun k hk => lst_set.2 (.inl hk)
    have hlsti : Lst (l.setIfInBounds i true) i := lst_set.2 (.inr ⟨rfl, hlt⟩)
    have hdown : ∀ k o', ops[k]? = some o' → Lst (l.setIfInBounds i true) k → ∀ ed ∈ o'.after, Region.binds .any ed = true → Lst (l.setIfInBounds i true) ed.on := fun k o' ho' hk ed hed hbd => by
      rcases lst_set.1 hk with hk | ⟨rfl, _⟩
      · exact hlst _ (hI.down k o' ho' hk ed hed hbd)
      · rw [ho] at ho'
        injection ho' with ho'
        subst ho'
        exact hlst _ (hedge ed hed hbd)
    have hlook : ∀ t ∈ looksL ops.toList o, ¬ Sl ops pend t := fun t ht ⟨k, hkp, ok, h1, h2⟩ => by
      obtain ⟨⟨ok', hok', hek⟩, _⟩ := hI.pd k hkp
      rw [h1] at hok'
      injection hok' with hok'
      subst hok'
      obtain ⟨ed, g1, g2, g3⟩ := ((chkR_spec (T := X.C.T) hchk ho h1 h2).1 ht).resolve_right fun h => (by rw [hek] at h; cases h.1)
      have := hedge ed g1 g2
      rw [g3] at this
      exact (hI.pd k hkp).2 this
    unfold wpOpIn
    simp only [ho]
    by_cases hpi : i ∈ pend
    · -- done ahead
      obtain ⟨v, hv, hslot⟩ := hR.ah i hpi o ho
      refine read_ok hG hR.sr hR.ev o hlook hv fun ρ' u w' hle hS' hvu => ?_
      refine ih (l.setIfInBounds i true) m n (pend.erase i) ρ' H w' e (a.put o.dst u) hb ⟨by simpa using hI.size, fun j => ?_, fun j hj => ?_, hI.nodup.erase i, hI.order.erase hlst hlsti, hdown⟩ ⟨hS', ⟨(put_size ..).trans hR.ev.size, fun t x hx hs => ?_, by rw [put_defers]; exact hR.ev.marks.mono hle⟩, fun j hj => hR.ah j (List.mem_of_mem_erase hj)⟩ hcnt' h (fun e' H' a' w'' r g1 g2 g3 g4 => hk e' H' a' w'' r g1 g2 g3 (hle.trans g4)) (hp.mono hle)
      · rw [hI.split j, lst_set, hI.nodup.mem_erase_iff]
        by_cases e : j = i
        · subst e; exact ⟨fun _ => .inl (.inr ⟨rfl, hlt⟩), fun _ => .inr hpi⟩
        · simp [e]
      · obtain ⟨hj1, hj2⟩ := hI.nodup.mem_erase_iff.1 hj
        exact ⟨(hI.pd j hj2).1, fun hl => (lst_set.1 hl).elim (hI.pd j hj2).2 fun h => hj1 h.1⟩
      · rw [put_getD, hR.ev.size]
        by_cases hd : o.dst = some t
        · rcases hslot t hd with ⟨h1, h2⟩ | h2
          · rw [h2] at hx
            injection hx with hx
            subst hx
            rw [if_pos ⟨hd, h1⟩]
            exact ⟨h1, hvu⟩
          · rw [h2] at hx; cases hx
        · rw [if_neg fun h => hd h.1]
          refine (hR.ev.mono hle).slot t x hx fun ⟨k, hkp, ok, h1, h2⟩ => hs ⟨k, ?_, ok, h1, h2⟩
          refine hI.nodup.mem_erase_iff.2 ⟨fun e => ?_, hkp⟩
          subst e
          rw [ho] at h1
          injection h1 with h1
          subst h1
          exact hd h2
    · -- the next effect
      have hbit : m.testBit i = false := by
        cases hbt : m.testBit i with
        | false => rfl
        | true => exact (((hI.split i).1 hbt).elim hnl hpi).elim
      have hrdy : rdy o m = true := rdy_of fun ed hed hbd => (hI.split _).2 (.inl (hedge ed hed hbd))
      have heff : isE X.C.T (ovsL ops.toList) o = true := by
        cases he : isE X.C.T (ovsL ops.toList) o with
        | true => rfl
        | false =>
          have : i ∈ cands X.C.T (ovsL ops.toList) false m ops.toList 0 := (cands_spec ..).2 ⟨i, o, by simpa using ho, by omega, hbit, he, hrdy⟩
          rw [hb] at this
          cases this
      have hci : i ∈ cands X.C.T (ovsL ops.toList) true m ops.toList 0 := (cands_spec ..).2 ⟨i, o, by simpa using ho, by omega, hbit, heff, hrdy⟩
      cases n with
      | zero => exact (OkIn.bad h).elim
      | succ n =>
        have hpl : plan X ops (n + 1) m = _ := mkPlanF_succ ..
        rw [hpl, hb] at h
        simp only at h
        cases hc : cands X.C.T (ovsL ops.toList) true m ops.toList 0 with
        | nil => rw [hc] at hci; cases hci
        | cons j rest =>
          rw [hc] at h hci
          cases rest with
          | cons j2 rest => exact (OkIn.bad h).elim
          | nil =>
            have : i = j := List.mem_singleton.1 hci
            subst this
            have h : OkIn (pEf X ds ops i (again X.C.T (ovsL ops.toList) ((nth (masks ops.toList []) i).getD 0) m ops.toList 0) e H fun e H => drawR X ds ops (plan X ops n (m ||| 2 ^ i)) e H K) L := h
            unfold pEf at h
            rw [nth_eq] at h
            simp only [Array.getElem?_toList, ho] at h
            refine stepO_ok hC hG hR.sr hR.ev o hlook h (fun v H' ρ' u w' hk' hle hS' hvu => ?_) hp
            cases hst : stayL X.C ops.toList (putd X.N e o.dst v) H' (again X.C.T (ovsL ops.toList) ((nth (masks ops.toList []) i).getD 0) m ops.toList 0) with
            | false => rw [hst] at hk'; exact (OkIn.bad hk').elim
            | true =>
              rw [hst] at hk'
              have hk' : OkIn (drawR X ds ops (plan X ops n (m ||| 2 ^ i)) (putd X.N e o.dst v) H' K) L := hk'
              have hstay : ∀ k ∈ again X.C.T (ovsL ops.toList) ((nth (masks ops.toList []) i).getD 0) m ops.toList 0, stays X.C ops.toList (putd X.N e o.dst v) H' k = true := by
                generalize again X.C.T (ovsL ops.toList) ((nth (masks ops.toList []) i).getD 0) m ops.toList 0 = ag at hst
                induction ag with
                | nil => intro k hk; cases hk
                | cons y ys ihy =>
                  have hst : (bif stays X.C ops.toList (putd X.N e o.dst v) H' y then stayL X.C ops.toList (putd X.N e o.dst v) H' ys else false) = true := hst
                  cases hy : stays X.C ops.toList (putd X.N e o.dst v) H' y with
                  | false => rw [hy] at hst; cases hst
                  | true =>
                    rw [hy] at hst
                    intro k hk
                    rcases List.mem_cons.1 hk with rfl | hk
                    · exact hy
                    · exact ihy hst k hk
              have hI' : Inv X.C.T ops (l.setIfInBounds i true) (m ||| 2 ^ i) pend := by
                refine ⟨by simpa using hI.size, fun j => ?_, fun j hj => ⟨(hI.pd j hj).1, fun hl => (lst_set.1 hl).elim (hI.pd j hj).2 fun h => hpi (h.1 ▸ hj)⟩, hI.nodup, hI.order.mono hlst, hdown⟩
                rw [testBit_add, hI.split j, lst_set]
                by_cases e : j = i
                · subst e; simp [hlt]
                · simp [e]
              have hR' : Rel X W ds ops ρ' H' w' (putd X.N e o.dst v) (a.put o.dst u) pend := by
                refine ⟨hS', hR.ev.put hle _ hvu, fun k hkp ok hok => ?_⟩
                obtain ⟨v0, g1, g2⟩ := hR.ah k hkp ok hok
                have hne : i ≠ k := fun e => hpi (e ▸ hkp)
                have hsl : ∀ t, ok.dst = some t → (putd X.N e o.dst v).get t = e.get t := fun t ht => by
                  rw [get_putd, if_neg]
                  rintro ⟨hd, _⟩
                  exact (chkR_spec (T := X.C.T) hchk ho hok ht).2 hne hd
                have hbk : m.testBit k = true := (hI.split k).2 (.inr hkp)
                obtain ⟨⟨ok', hok', heffk⟩, hnlk⟩ := hI.pd k hkp
                rw [hok] at hok'
                injection hok' with hok'
                subst hok'
                have hlookk : ∀ t ∈ looksL ops.toList ok, e.get t = (putd X.N e o.dst v).get t := fun t ht => by
                  rw [get_putd, if_neg]
                  rintro ⟨hd, _⟩
                  have hmask : ∀ k, ((nth (masks ops.toList []) i).getD 0).testBit k = true → Lst l k := mask_ok (D := Lst l) (fun j oj hj hl ed hed hbd => hI.down j oj (by simpa using hj) hl ed hed hbd) (by simpa using ho) hedge
                  obtain ⟨ed, q1, q2, q3⟩ := ((chkR_spec (T := X.C.T) hchk hok ho hd).1 ht).resolve_right fun h => hnlk (hmask k h.2)
                  rcases hI.order.edge k hkp ok hok ed q1 q2 with h4 | h4
                  · rw [q3] at h4; exact hnl h4
                  · rw [q3] at h4; exact hpi h4
                cases hrd : isRd X.C.T ok.op with
                | false =>
                  refine ⟨v0, ?_, fun t ht => by rw [hsl t ht]; exact g2 t ht⟩
                  rw [← g1]
                  exact (readS_congr hlookk (.inr ⟨(Bool.or_eq_false_iff.1 heffk).1, hrd⟩)).symm
                | true =>
                  have hmk : ((nth (masks ops.toList []) i).getD 0).testBit k = false := by
                    cases hm : ((nth (masks ops.toList []) i).getD 0).testBit k with
                    | false => rfl
                    | true => exact absurd (mask_ok (D := Lst l) (fun j oj hj hl ed hed hbd => hI.down j oj (by simpa using hj) hl ed hed hbd) (by simpa using ho) hedge k hm) hnlk
                  have hag := again_spec X.C.T (ovsL ops.toList) ((nth (masks ops.toList []) i).getD 0) m ops.toList 0 k ok (by simpa using hok) (by rw [Nat.zero_add]; exact hbk) hrd heffk (by rw [Nat.zero_add]; exact hmk)
                  rw [Nat.zero_add] at hag
                  have hs := hstay k hag
                  unfold stays at hs
                  rw [nth_eq] at hs
                  simp only [Array.getElem?_toList, hok] at hs
                  cases hrs : readS X.C ops.toList ok (putd X.N e o.dst v) H' with
                  | none => rw [hrs] at hs; cases hs
                  | some v1 =>
                    refine ⟨v1, rfl, fun t ht => ?_⟩
                    rw [hrs, ht] at hs
                    simp only at hs
                    rw [hsl t ht] at hs ⊢
                    rcases g2 t ht with ⟨q1, q2⟩ | q2
                    · rw [q2] at hs ⊢
                      rw [ceq_spec hs]
                      exact .inl ⟨q1, rfl⟩
                    · rw [q2] at hs; cases hs
              obtain ⟨n', m', pend', e', a1, a2, a3, a4⟩ := advance hchk n (m ||| 2 ^ i) pend (putd X.N e o.dst v) hI' hR' hk'
              exact ih (l.setIfInBounds i true) m' n' pend' ρ' H' w' e' (a.put o.dst u) a1 a2 a3 hcnt' a4 (fun e'' H'' a'' w'' r k1 k2 k3 k4 => hk e'' H'' a'' w'' r k1 k2 k3 (hle.trans k4)) (hp.mono hle)
/-- **A region that draws its order.** -/
theorem drawC_ok {ρ : Rho} {H : CH} {w : World} {e : Tr CV} {a : Act} {id : Nat} (hC : CallOk X.C W X.call) (hG : GOk X.C.G W) (hm : X.C.P.follows .mixedOrders = true) (hS : SR W ρ H w) (hE : EvS ρ X.N e ds a (fun _ => False)) (h : OkIn (drawC X ds ops e H K) L)
    (hk : ∀ e' H' a' w' ρ', SR W ρ' H' w' → EvS ρ' X.N e' ds a' (fun _ => False) → OkIn (K e' H') L → Rho.le ρ ρ' → Q .normal a' w') (hp : PanOk X W L ρ Q) : (Code.region id ops true).wpIn (FE rb) 0 X.C.P Q a w := by
  unfold drawC at h
  cases hchk : chkR ops.toList with
  | false => rw [hchk] at h; exact (OkIn.bad h).elim
  | true =>
    rw [hchk] at h
    have h : OkIn (drawR X ds ops (plan X ops (len ops.toList + 1) 0) e H K) L := h
    refine wpIn_region_any hm ?_
    have hl0 : ∀ i, ¬ Lst (Array.replicate ops.size false) i := fun i hi => by
      unfold Lst at hi
      simp [Array.getD_eq_getD_getElem?, Array.getElem?_replicate] at hi
      split at hi <;> simp at hi
    have hI : Inv X.C.T ops (Array.replicate ops.size false) 0 [] := ⟨by simp, fun i => (by simp [hl0 i]), fun i hi => (by cases hi), List.nodup_nil, trivial, fun i o _ hi => absurd hi (hl0 i)⟩
    have hR : Rel X W ds ops ρ H { w with drawn := w.drawn + 1 } e a [] := ⟨hS.drew, ⟨hE.size, fun t x hx _ => hE.slot t x hx (fun h => h), hE.marks⟩, fun i hi => by cases hi⟩
    obtain ⟨n', m', pend', e', a1, a2, a3, a4⟩ := advance hchk _ _ _ _ hI hR h
    exact any_ok hchk hC hG ops.size _ m' n' pend' ρ H _ e' a a1 a2 a3 (by unfold cnt; simp) a4 hk hp
end
end Go.Proofs.Yteeifedpabcehaa.Cx
