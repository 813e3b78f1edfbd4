/-
  Closed runs: append, copy, clear.
-/
import Derived.Test.YtjhaikcokbmdbaaGreatDoorCxN
namespace Go.Proofs.YtjhaikcokbmdbaaGreatDoor.Cx
open Go.RowKit Go.Proofs.YtjhaikcokbmdbaaGreatDoor.Ax

section
variable {P : Program} {ρ : Rho} {W w : World} {H : CH}
/-- The cells that are taken from a value. -/
structure Src (P : Program) (w : World) (sz : Nat) (v : Value) (m : Nat) (news : List Value) : Prop where
  len : (Builtin.lenOf v).run P w = .ok m w
  first : ∀ k, k ≤ m → (Builtin.firstCells sz k v).run P w = .ok (news.take (k * sz)).toArray w
  firstD : ∀ k, k ≤ m → (Builtin.firstCells sz k v).run P w.drew = .ok (news.take (k * sz)).toArray w.drew
  many : news.length = m * sz
  one : ∀ u ∈ news, u.oneCell' = true
theorem first_at {sz : Nat} {A : Option Addr} {n c : Nat} {vs : List Value} (h3 : vs.length = n * sz) (h5 : ∀ (j : Nat) u, vs[j]? = some u → ∃ b o, A = some ⟨b, o, none⟩ ∧ w.cell? ⟨b, o + j, none⟩ = some u) (k : Nat) (hk : k ≤ n) :
    (Builtin.firstCells sz k (.slice A n c)).run P w = .ok (vs.take (k * sz)).toArray w := by
  have hle : k * sz ≤ vs.length := by rw [h3]; exact Nat.mul_le_mul_right _ hk
  cases A with
  | none =>
    have : vs = [] := by
      cases vs with
      | nil => rfl
      | cons u us => obtain ⟨_, _, e, _⟩ := h5 0 u rfl; cases e
    subst this
    simp [Builtin.firstCells]
  | some ad =>
    have hs : vs ≠ [] → ad.spot = none := fun hne => by
      cases vs with
      | nil => exact absurd rfl hne
      | cons u us => obtain ⟨_, _, e, _⟩ := h5 0 u rfl; injection e with e; rw [e]
    refine run_firstCells_some w sz k ad n c _ (by rw [List.length_take]; omega) fun j v hv => ?_
    rw [List.getElem?_take] at hv
    split at hv
    · obtain ⟨b, o, e, r⟩ := h5 j v hv
      injection e with e
      subst e
      rw [add_none]; exact r
    · cases hv
theorem srcC_spec (hS : SR W ρ H w) {sz t2 : Nat} (hsz : sz ≠ 0) {x : CV} {v : Value} {xs : List CV} {m : Nat} (hx : x.R ρ v) (h : srcC (mkTD P) H sz t2 x = some (xs, m)) : ∃ news, CV.Rs ρ xs news ∧ Src P w sz v m news := by
  unfold srcC at h
  split at h
  · rename_i l
    obtain ⟨hl, rfl⟩ := R_str' hx
    cases hb : Nat.beq sz 1 with
    | false => rw [hb] at h; cases h
    | true =>
      rw [hb] at h
      have := Nat.eq_of_beq_eq_true hb
      subst this
      simp only [cond_true, Option.some.injEq, Prod.mk.injEq] at h
      obtain ⟨rfl, rfl⟩ := h
      rw [len_eq]
      have hsz : (⟨(u8s l).toArray⟩ : ByteArray).size = l.length := by simp [ByteArray.size, u8s]
      have hb8 : bvalsN l = bvals (u8s l) := by
        simp only [bvalsN, bvals, u8s, List.map_map]
        refine List.map_congr_left fun c hc => ?_
        simp [Nat.mod_eq_of_lt (hl c hc)]
      have hf : ∀ (w : World) k, k ≤ l.length → (Builtin.firstCells 1 k (.string ⟨(u8s l).toArray⟩)).run P w = .ok ((bvalsN l).take (k * 1)).toArray w := fun w k hk => by
        have e : ((⟨(u8s l).toArray⟩ : ByteArray).extract 0 k).data = ((u8s l).take k).toArray := by
          rw [ByteArray.data_extract]
          simp
        simp only [Builtin.firstCells, Sem.run_pure, e]
        congr 1
        rw [hb8]
        simp [bvals]
      exact ⟨bvalsN l, Rs_bytes l, by simp [Builtin.lenOf, hsz], hf w, hf w.drew, by simp [bvalsN], fun u hu => by
        simp only [bvalsN, List.mem_map] at hu
        obtain ⟨n, _, rfl⟩ := hu
        rfl⟩
  · rename_i hh s off n c
    split at h
    · rename_i cs hcs
      simp only [Option.some.injEq, Prod.mk.injEq] at h
      obtain ⟨rfl, rfl⟩ := h
      obtain ⟨A, n', c', vs, rfl, h1, h2, h3, h4, h5⟩ := rowCells_spec hS hx hcs
      have hn : n' = n := by
        simp only [CV.R] at hx
        obtain ⟨_, _, _, _, _, e, _⟩ := hx
        injection e
      subst hn
      exact ⟨vs, h2, by simp [Builtin.lenOf], first_at h3 fun j u hu => h5 j u hu hsz, first_at h3 fun j u hu => by
        obtain ⟨b, o, e1, e2⟩ := h5 j u hu hsz
        exact ⟨b, o, e1, by simpa using e2⟩, h3, h4⟩
    · cases h
  · cases h
    simp only [CV.R] at hx
    subst hx
    exact ⟨[], by simp [CV.Rs], by simp [Builtin.lenOf], fun k hk => by simp [Builtin.firstCells], fun k hk => by simp [Builtin.firstCells], by simp, by simp⟩
  · cases h
theorem seqT_spec {t : Nat} (h : seqT (mkTD P) t = true) : ∃ u, P.underlying t = some u ∧ ((∃ e, u = .slice e) ∨ u = .string) := by
  unfold seqT at h
  split at h
  · rename_i d hd
    unfold isSeq at h
    split at h
    · rename_i e hk; exact ⟨_, u_sl hd hk, .inl ⟨_, rfl⟩⟩
    · rename_i hk; exact ⟨_, u_str hd hk, .inr rfl⟩
    · cases h
  · cases h
theorem zeroFits_spec {d : TD} (h : zeroFits d = true) : ∃ z, d.zero = some z ∧ z.cells.size = d.size := by
  unfold zeroFits at h
  split at h
  · rename_i zs hz
    have h := Nat.eq_of_beq_eq_true h
    obtain ⟨z, h1, rfl⟩ := zeroA_spec hz
    exact ⟨z, h1, by simpa using h⟩
  · cases h
theorem take_all {l : List Value} {k : Nat} (h : l.length = k) : l.take k = l := by rw [← h]; exact List.take_length
/-- Cells copied into a new block, with room behind them. -/
theorem SR.grown (hS : SR W ρ H w) {cs : List CV} {vs rest : List Value} (e : TypeId) (hr : CV.Rs ρ cs vs) (h1 : ∀ v ∈ vs, v.oneCell' = true) :
    SR W (ρ.ext H.next (w.heap.size, (vs ++ rest).length)) ((Cmd.add (.cells cs)).app H) (w.drew.alloc (.cells (vs ++ rest).toArray e)) := by
  have hle := Rho.le_ext (p := (w.heap.size, (vs ++ rest).length)) (hS.fresh H.next (Nat.le_refl _))
  refine hS.drew.fresh1 (hS.drew.push _) (by simp) (fun _ _ _ _ h => by cases h) ⟨(vs ++ rest).toArray, e, (0, 0), vs, alloc_new _ _, by simp, FrOk.zero _, CV.Rs_mono hle _ _ hr, h1, fun j u hj => ?_⟩
  have : j < vs.length := (List.getElem?_eq_some_iff.1 hj).1
  simp only [List.getElem?_toArray]
  rw [List.getElem?_append_left this]
  exact hj
theorem appC_ok (hS : SR W ρ H w) (t t2 ty : Nat) (s x : CV) {u v : Value} (hs : s.R ρ u) (hx : x.R ρ v) : (appC (mkTD P) H t t2 s x).wr P W ρ H w (Builtin.append_ #[t, t2] ty #[u, v]) := by
  unfold appC
  split
  · rename_i e de he
    obtain ⟨hu, hde⟩ := elemC_spec he
    obtain ⟨i, hi1, hi2, hi3, hi4⟩ := u_info hde
    cases hb : (seqT (mkTD P) t2 && zeroFits de && !(Nat.beq de.size 0)) with
    | false => exact trivial
    | true =>
      simp only [Bool.and_eq_true, Bool.not_eq_true'] at hb
      obtain ⟨⟨b1, b2⟩, b3⟩ := hb
      have hz0 : de.size ≠ 0 := fun e => by rw [e] at b3; simp at b3
      obtain ⟨u2, h2, hn⟩ := seqT_spec b1
      obtain ⟨z, hz1, hzc⟩ := zeroFits_spec b2
      simp only [cond_true]
      split
      · exact trivial
      · rename_i xs m hxs
        obtain ⟨news, hnr, hsrc⟩ := srcC_spec hS hz0 hx hxs
        have hfirst := hsrc.first m (Nat.le_refl _)
        have hfirstD := hsrc.firstD m (Nat.le_refl _)
        rw [take_all hsrc.many] at hfirst hfirstD
        -- a block that is grown
        have grow : ∀ (A : Option Addr) (n c : Nat) (old : List CV) (olds : List Value), u = .slice A n c → n ≤ c → c < n + m → (n + m) * de.bytes ≤ 140737488355328 → n + m ≤ 140737488355328 → CV.Rs ρ old olds → olds.length = n * de.size → (∀ v ∈ olds, v.oneCell' = true) →
            (Builtin.firstCells i.size n (.slice A n c)).run P w.drew = .ok olds.toArray w.drew →
            ∃ w' c' room, (Builtin.append_ #[t, t2] ty #[u, v]).run P w = .ok (.slice (some ⟨w.heap.size, 0, none⟩) (n + m) c') w' ∧ SR W (ρ.ext H.next (w.heap.size, room)) ((Cmd.add (.cells (catL old xs))).app H) w' ∧ (CV.row H.next de.size 0 (n + m) none).R (ρ.ext H.next (w.heap.size, room)) (.slice (some ⟨w.heap.size, 0, none⟩) (n + m) c') ∧
              (∀ H', SR W ρ H' w → H'.next = H.next → SR W (ρ.ext H.next (w.heap.size, room)) ((Cmd.add (.cells (catL old xs))).app H') w') := by
          intro A n c old olds hA hnc hg hbytes hmany hor hol ho1 hfo
          subst hA
          have hfit := growslice_fits (need := n + m) (old := c) (bytes := i.bytes) (by omega) (by rw [hi3]; exact hbytes)
          have hrun := app_grow (P := P) (ty := ty) hu h2 hn hi1 (by rw [hi4]; exact hz1) A n c v m olds.toArray news.toArray hsrc.len hfo (by rw [hi2]; exact hfirstD) (by omega) (by omega) hfit
          have hge := grownCap_ge w (n + m) c e
          have hle := grownCap_le_maxLen w (n + m) c e (by unfold maxLen; omega)
          have harr : (olds.toArray ++ news.toArray ++ Builtin.zeroCells z.cells (grownCap w (n + m) c e - (n + m))) = (olds ++ news ++ (Builtin.zeroCells z.cells (grownCap w (n + m) c e - (n + m))).toList).toArray := by
            apply Array.ext'
            simp
          rw [harr] at hrun
          have hroom : (olds ++ news ++ (Builtin.zeroCells z.cells (grownCap w (n + m) c e - (n + m))).toList).length = grownCap w (n + m) c e * de.size := by
            rw [List.length_append, List.length_append, hol, hsrc.many, Array.length_toList, size_zeroCells, hzc, ← Nat.add_mul, ← Nat.add_mul]
            congr 1
            omega
          have hall : ∀ v ∈ olds ++ news, v.oneCell' = true := fun v hv => (List.mem_append.1 hv).elim (ho1 v) (hsrc.one v)
          have key : ∀ H', SR W ρ H' w → H'.next = H.next → SR W (ρ.ext H.next (w.heap.size, grownCap w (n + m) c e * de.size)) ((Cmd.add (.cells (catL old xs))).app H') (w.drew.alloc (.cells (olds ++ news ++ (Builtin.zeroCells z.cells (grownCap w (n + m) c e - (n + m))).toList).toArray e)) := fun H' h' hn' => by
            have := h'.grown e (cs := catL old xs) (vs := olds ++ news) (rest := (Builtin.zeroCells z.cells (grownCap w (n + m) c e - (n + m))).toList) (by rw [catL_eq]; exact Rs_append hor hnr) hall
            rw [hroom, hn'] at this
            exact this
          exact ⟨_, _, grownCap w (n + m) c e * de.size, hrun, key H hS rfl, R_newRow hge hle (Nat.le_refl _) (fun x hx => by cases hx), key⟩
        -- room enough
        have room := app_room (P := P) (w := w) (ty := ty) hu h2 hn hi1
        split
        · simp only [CV.R] at hs
          subst hs
          cases hm0 : Nat.beq m 0 with
          | true =>
            have hm := Nat.eq_of_beq_eq_true hm0
            subst hm
            have hrun := room none 0 0 v 0 news.toArray hsrc.len (by rw [hi2]; exact hfirst) (Nat.le_refl _) w (fun a h => by cases h) (fun _ => rfl)
            exact ⟨_, _, ρ, hrun, Rho.le.refl _, hS, by simp only [CV.R]⟩
          | false =>
            have hm : m ≠ 0 := fun e => by rw [e] at hm0; simp at hm0
            cases hbb : (Nat.ble (m * de.bytes) 140737488355328 && Nat.ble m 140737488355328) with
            | false => exact trivial
            | true =>
              rw [Bool.and_eq_true] at hbb
              have c1 := Nat.le_of_ble_eq_true hbb.1
              have c2 := Nat.le_of_ble_eq_true hbb.2
              obtain ⟨w', c', rm, g1, g2, g3, _⟩ := grow none 0 0 [] [] rfl (Nat.le_refl _) (by omega) (by simpa using c1) (by omega) (by simp [CV.Rs]) (by simp) (by simp) (by simp [Builtin.firstCells])
              rw [Nat.zero_add] at g1 g3
              exact ⟨_, w', _, g1, Rho.le_ext (hS.fresh _ (Nat.le_refl _)), g2, g3⟩
        · rename_i h sz off n cap
          have hs' := hs
          simp only [CV.R] at hs
          obtain ⟨b, q, o, c, q1, rfl, q2, q3, q4, q5, q6⟩ := hs
          cases hm0 : Nat.beq m 0 with
          | true =>
            have hm := Nat.eq_of_beq_eq_true hm0
            subst hm
            have hnews : news = [] := List.eq_nil_of_length_eq_zero (by rw [hsrc.many]; simp)
            subst hnews
            have hrun := room (some ⟨b, o, none⟩) n c v 0 #[] hsrc.len (by rw [hi2]; exact hfirst) q2 w (fun a _ => rfl) (fun _ => rfl)
            exact ⟨_, _, ρ, hrun, Rho.le.refl _, hS, hs'⟩
          | false =>
            have hm : m ≠ 0 := fun e => by rw [e] at hm0; simp at hm0
            simp only [cond_false]
            cases hbb : (Nat.beq sz de.size && Nat.ble ((n + m) * de.bytes) 140737488355328 && Nat.ble (n + m) 140737488355328) with
            | false => exact trivial
            | true =>
              simp only [Bool.and_eq_true] at hbb
              have c0 := Nat.eq_of_beq_eq_true hbb.1.1
              subst c0
              have c1 := Nat.le_of_ble_eq_true hbb.1.2
              have c2 := Nat.le_of_ble_eq_true hbb.2
              simp only [cond_true]
              split
              · rename_i old hold
                obtain ⟨A, n', c', olds, e1, h1, hor, hol, ho1, ho5⟩ := rowCells_spec hS hs' hold
                injection e1 with e1 e2 e3
                subst e1 e2 e3
                have hfo : (Builtin.firstCells i.size n (.slice (some ⟨b, o, none⟩) n c)).run P w.drew = .ok olds.toArray w.drew := by
                  have := first_at (P := P) (w := w.drew) (sz := de.size) (A := some ⟨b, o, none⟩) (c := c) hol (fun j u hu => by
                    obtain ⟨b, o, e1, e2⟩ := ho5 j u hu hz0
                    exact ⟨b, o, e1, by simpa using e2⟩) n (Nat.le_refl _)
                  rw [take_all hol] at this
                  rw [hi2]
                  exact this
                have grow' := fun hg => grow (some ⟨b, o, none⟩) n c old olds rfl q2 hg c1 c2 hor hol ho1 hfo
                have place : ∀ cs', H.get h = some (.cells cs') → off + (n + m) * de.size ≤ cs'.length → n + m ≤ c → ∃ w', (Builtin.append_ #[t, t2] ty #[.slice (some ⟨b, o, none⟩) n c, v]).run P w = .ok (.slice (some ⟨b, o, none⟩) (n + m) c) w' ∧ SR W ρ ((Cmd.set h (.cells (overL cs' xs (off + n * de.size)))).app H) w' := fun cs' hg hl hr => by
                  have l2 := Rs_len _ _ hnr
                  obtain ⟨w', k1, k2⟩ := hS.over (P := P) (off := off + n * de.size) hg q1 hnr hsrc.one (by rw [← l2, hsrc.many, Nat.add_assoc, ← Nat.add_mul]; exact hl)
                  refine ⟨w', room (some ⟨b, o, none⟩) n c v m news.toArray hsrc.len (by rw [hi2]; exact hfirst) hr w' (fun a ha => ?_) (fun h => by cases h), k2⟩
                  injection ha with ha
                  subst ha
                  rw [add_none, hi2, q4 (by omega)]
                  exact k1
                split
                · cases hoff : Nat.beq off 0 with
                  | false => exact trivial
                  | true =>
                    have hoff := Nat.eq_of_beq_eq_true hoff
                    subst hoff
                    simp only [cond_true]
                    by_cases hr : n + m ≤ c
                    · -- in place, under a new handle
                      unfold rowCells at hold
                      simp only [Nat.beq_refl, cond_true] at hold
                      split at hold
                      · rename_i ds hg
                        cases hl : Nat.ble (0 + n * de.size) (len ds) with
                        | false => rw [hl] at hold; cases hold
                        | true =>
                          rw [hl] at hold
                          simp only [cond_true, Option.some.injEq, takeL_eq, dropL_eq, List.drop_zero] at hold
                          subst hold
                          have hl := Nat.le_of_ble_eq_true hl
                          rw [len_eq] at hl
                          obtain ⟨arr, e', fr, vs, g1, g2, g3, g4, g5, g6⟩ := hS.p hg q1
                          have g1 : w.heap[b]? = some (.cells arr e' fr) := g1
                          have g2 : arr.size = q := g2
                          have l1 := Rs_len _ _ g4
                          have hroom : n * de.size + news.length ≤ arr.size := by
                            rw [hsrc.many, ← Nat.add_mul, g2]
                            have := Nat.mul_le_mul_right de.size hr
                            omega
                          have hvs : vs.length ≤ arr.size := by
                            rcases Nat.lt_or_ge arr.size vs.length with h | h
                            · have := g6 arr.size _ (List.getElem?_eq_getElem h)
                              simp at this
                            · exact h
                          have hst := run_stores (P := P) (b := b) (e := e') (fr := fr) (n * de.size) news 0 arr w g1 g3 (by simpa using hroom) hsrc.one
                          rw [Nat.add_zero] at hst
                          have hnew := hS.new _ _ _ hg q1
                          have hne : ∀ k, k ≠ b → (putObj w b (.cells (layArr arr (n * de.size) news) e' fr)).heap[k]? = w.heap[k]? := fun k hk => by simp [putObj, Array.getElem?_setIfInBounds_ne (Ne.symm hk)]
                          have hfree : ∀ h' d q', (H.del h).get h' = some d → ρ h' = some q' → q'.1 ≠ b := fun h' d q' hd hq' => by
                            rw [get_del] at hd
                            split at hd
                            · cases hd
                            · rename_i hh
                              exact hS.apart _ _ _ _ _ _ hd hg hh hq' q1
                          have hle := Rho.le_ext (p := (b, q)) (hS.fresh H.next (Nat.le_refl _))
                          have hS2 : SR W ρ (H.del h) (putObj w b (.cells (layArr arr (n * de.size) news) e' fr)) := (hS.del h).other rfl rfl rfl (by simp [putObj]) fun k hk hor => hne k (by
                            rcases hor with h0 | ⟨h', d, p, k1, k2, rfl⟩
                            · intro e; subst e; simp only at hnew; omega
                            · exact hfree h' d p k1 k2)
                          have hsz : (vs.take (n * de.size)).length = n * de.size := by rw [List.length_take]; omega
                          refine ⟨.slice (some ⟨b, o, none⟩) (n + m) c, putObj w b (.cells (layArr arr (n * de.size) news) e' fr), ρ.ext H.next (b, q), room (some ⟨b, o, none⟩) n c v m news.toArray hsrc.len (by rw [hi2]; exact hfirst) hr _ (fun a ha => ?_) (fun h => by cases h), hle, ?_, ?_⟩
                          · injection ha with ha
                            subst ha
                            rw [add_none, hi2, q4 (by omega), Nat.zero_add]
                            exact hst
                          · rw [app_swap]
                            refine hS2.bind (p := (b, q)) ⟨_, e', fr, vs.take (n * de.size) ++ news, putObj_same g1, by rw [layArr_size, g2], by rw [layArr_size]; exact g3, ?_, ?_, fun j u hj => ?_⟩ hnew (fun h' d q' k1 k2 => hfree h' d q' k1 k2) (fun _ _ _ _ h => by cases h)
                            · rw [catL_eq]
                              exact CV.Rs_mono hle _ _ (Rs_append (Rs_take _ _ _ g4) hnr)
                            · intro v hv
                              exact (List.mem_append.1 hv).elim (fun hv => g5 v (List.mem_of_mem_take hv)) (hsrc.one v)
                            · rw [layV_arr hroom, layV_get _ _ _ _ (by simpa using hroom)]
                              rw [List.getElem?_append, hsz] at hj
                              split at hj
                              · rename_i hlt
                                rw [if_neg (by omega)]
                                rw [List.getElem?_take_of_lt hlt] at hj
                                have := g6 j u hj
                                simpa using this
                              · rename_i hge
                                have : j - n * de.size < news.length := (List.getElem?_eq_some_iff.1 hj).1
                                rw [if_pos (by omega)]
                                exact hj
                          · simp only [CV.R]
                            exact ⟨b, q, o, c, Rho.ext_same .., rfl, hr, q3, q4, q5, fun x hx => by cases hx⟩
                      · cases hold
                    · obtain ⟨w', c', rm, g1, _, g3, g4⟩ := grow' (by omega)
                      exact ⟨_, w', _, g1, Rho.le_ext (hS.fresh _ (Nat.le_refl _)), by rw [app_swap]; exact g4 (H.del h) (hS.del h) rfl, g3⟩
                · rename_i c' 
                  have := q6 _ rfl
                  subst this
                  cases hr : Nat.ble (n + m) c with
                  | true =>
                    have hr := Nat.le_of_ble_eq_true hr
                    simp only [cond_true]
                    split
                    · rename_i cs' hg
                      cases hl : Nat.ble (off + (n + m) * de.size) (len cs') with
                      | false => exact trivial
                      | true =>
                        have hl := Nat.le_of_ble_eq_true hl
                        rw [len_eq] at hl
                        obtain ⟨w', k1, k2⟩ := place cs' hg hl hr
                        refine ⟨_, w', ρ, k1, Rho.le.refl _, k2, ?_⟩
                        simp only [CV.R]
                        exact ⟨b, q, o, c, q1, rfl, hr, q3, q4, q5, q6⟩
                    · exact trivial
                  | false =>
                    have hr : ¬ (n + m ≤ c) := fun h => by rw [Nat.ble_eq_true_of_le h] at hr; cases hr
                    simp only [cond_false]
                    obtain ⟨w', c', rm, g1, g2, g3, _⟩ := grow' (by omega)
                    exact ⟨_, w', _, g1, Rho.le_ext (hS.fresh _ (Nat.le_refl _)), g2, g3⟩
              · exact trivial
        · exact trivial
  · exact trivial
end
end Go.Proofs.YtjhaikcokbmdbaaGreatDoor.Cx
