/-
  Closed runs: parts, comparisons, conversions, places.
-/
import Derived.Test.YtjhaikcokbmdbaaGreatDoorCxE
import Derived.ChangeKeysEq
namespace Go.Proofs.YtjhaikcokbmdbaaGreatDoor.Cx
open Go.RowKit Go.Proofs.YtjhaikcokbmdbaaGreatDoor.Ax

section
variable {P : Program} {ρ : Rho} {w : World} {t e : Nat} {d : TD}
theorem tt1 (h : mkTD P t = some d) : TOk P [(t, d)] := fun p hp => by
  simp only [List.mem_singleton] at hp
  subst hp
  exact h
theorem get1 (t : Nat) (d : TD) : TT.get [(t, d)] t = some d := by simp [TT.get]
theorem u_sl (h : mkTD P t = some d) (hk : d.k = .sl e) : P.underlying t = some (.slice e) := td_sl (tt1 h) (get1 t d) hk
theorem u_str (h : mkTD P t = some d) (hk : d.k = .str) : P.underlying t = some .string := td_str (tt1 h) (get1 t d) hk
theorem u_bool (h : mkTD P t = some d) (hk : d.k = .bool) : P.underlying t = some .bool := td_bool (tt1 h) (get1 t d) hk
theorem u_int {k : IntKind} (h : mkTD P t = some d) (hk : d.k = .int k) : P.underlying t = some (.int k) := td_int (tt1 h) (get1 t d) hk
theorem u_mp {k : Nat} (h : mkTD P t = some d) (hk : d.k = .mp k e) : P.underlying t = some (.map k e) := td_mp (tt1 h) (get1 t d) hk
theorem u_ptr (h : mkTD P t = some d) (hk : d.k = .ptr e) : P.underlying t = some (.pointer e) := td_ptr (tt1 h) (get1 t d) hk
theorem u_st {fs : List (Nat × Nat)} (h : mkTD P t = some d) (hk : d.k = .st fs) : ∃ f : Array Field, P.underlying t = some (.struct f) ∧ fs = f.toList.map fun f => (f.offset, f.type) := by
  obtain ⟨u, i, h1, h2, rfl⟩ := mkTD_spec h
  obtain ⟨f, rfl, h3⟩ := TK.of_st hk
  exact ⟨f, h1, h3⟩
theorem u_arr {n : Nat} (h : mkTD P t = some d) (hk : d.k = .arr n e) : P.underlying t = some (.array n e) := by
  obtain ⟨u, i, h1, h2, rfl⟩ := mkTD_spec h
  have hk : TK.of u = .arr n e := hk
  rw [h1]
  cases u <;> simp only [TK.of] at hk <;> cases hk
  rfl
theorem u_ifc (h : mkTD P t = some d) (hk : d.k = .ifc) : ∃ ms, P.underlying t = some (.interface ms) := by
  obtain ⟨u, i, h1, h2, rfl⟩ := mkTD_spec h
  have hk : TK.of u = .ifc := hk
  obtain ⟨ms, rfl⟩ := TK.of_ifc hk
  exact ⟨ms, h1⟩
theorem u_info (h : mkTD P t = some d) : ∃ i, P.info? t = some i ∧ i.size = d.size ∧ i.bytes = d.bytes ∧ i.zero = d.zero := td_info (tt1 h) (get1 t d)
theorem r_size (h : mkTD P t = some d) (w : World) : (sizeOf t).run P w = .ok d.size w := run_sizeOf' (tt1 h) (get1 t d) w
theorem r_agg (h : mkTD P t = some d) (w : World) : (isAgg t).run P w = .ok d.isAgg w := run_isAgg' (tt1 h) (get1 t d) w
theorem r_zero {z : Value} (h : mkTD P t = some d) (hz : d.zero = some z) (w : World) : (zeroValue t).run P w = .ok z w := run_zero' (tt1 h) (get1 t d) hz w

theorem part_ok {cs : List CV} {vs : List Value} {off : Nat} {x : CV} (hr : CV.Rs ρ cs vs) (hx : partC (mkTD P) t cs off = some x) : ∃ u, (part t vs.toArray off).run P w = .ok u w ∧ x.R ρ u := by
  unfold partC at hx
  split at hx
  · rename_i d hd
    have ha := r_agg hd w
    have hz := r_size hd w
    cases hag : d.isAgg with
    | true =>
      rw [hag] at hx ha
      simp only [cond_true] at hx
      cases hb : Nat.ble (off + d.size) (len cs) with
      | false => rw [hb] at hx; cases hx
      | true =>
        rw [hb] at hx
        simp only [cond_true, Option.some.injEq] at hx
        subst hx
        have e : vs.toArray.extract off (off + d.size) = ((vs.drop off).take d.size).toArray := by
          apply Array.ext'
          simp [List.extract_eq_take_drop]
        refine ⟨.agg ((vs.drop off).take d.size).toArray, by simp [part, ha, hz], ?_⟩
        simp only [CV.R, takeL_eq, dropL_eq]
        exact ⟨_, rfl, Rs_take _ _ _ (Rs_drop _ _ _ hr)⟩
    | false =>
      rw [hag] at hx ha
      simp only [cond_false, nth_eq] at hx
      obtain ⟨u, e2, r⟩ := Rs_get cs vs off x hr hx
      exact ⟨u, by simp [part, ha, e2], r⟩
  · cases hx
theorem eqIn_ifc0 (d : Nat) {t : TypeId} {ms : Array (String × TypeId)} (hu : P.underlying t = some (.interface ms)) : (Op.equalIn (d + 1) t .nilIface .nilIface).run P w = .ok true w := by
  simp [Op.equalIn, run_underlying hu]
theorem eqIn_ifc1 (d : Nat) {t s : TypeId} {y : Value} {ms : Array (String × TypeId)} (hu : P.underlying t = some (.interface ms)) : (Op.equalIn (d + 1) t .nilIface (.iface s y)).run P w = .ok false w := by
  simp [Op.equalIn, run_underlying hu]
theorem eqIn_ifc2 (d : Nat) {t s : TypeId} {y : Value} {ms : Array (String × TypeId)} (hu : P.underlying t = some (.interface ms)) : (Op.equalIn (d + 1) t (.iface s y) .nilIface).run P w = .ok false w := by
  simp [Op.equalIn, run_underlying hu]
theorem eqIn_sl2 (d : Nat) {t e : TypeId} (hu : P.underlying t = some (.slice e)) (A : Option Addr) (n c n' c' : Nat) : (Op.equalIn (d + 1) t (.slice none n c) (.slice A n' c')).run P w = .ok A.isNone w := by
  simp [Op.equalIn, run_underlying hu]
theorem nilP_spec {k : TK} {x : CV} {u : Value} {a : Bool} (h : nilP k x = some a) (hx : x.R ρ u) :
    (∃ e p, k = .ptr e ∧ u = .pointer p ∧ p.isNone = a) ∨ (∃ e f p, k = .mp e f ∧ u = .map p ∧ p.isNone = a) ∨ (∃ e A n c, k = .sl e ∧ u = .slice A n c ∧ A.isNone = a) ∨ (k = .ifc ∧ ((u = .nilIface ∧ a = true) ∨ ∃ s y, u = .iface s y ∧ a = false)) := by
  unfold nilP at h
  split at h <;> first | (cases h; done) | skip
  all_goals
    injection h with h
    subst h
    simp only [CV.R] at hx
  · subst hx; exact .inl ⟨_, none, rfl, rfl, rfl⟩
  · obtain ⟨b, m, _, rfl⟩ := hx; exact .inl ⟨_, _, rfl, rfl, rfl⟩
  · subst hx; exact .inl ⟨_, _, rfl, rfl, rfl⟩
  · subst hx; exact .inr (.inl ⟨_, _, none, rfl, rfl, rfl⟩)
  · obtain ⟨b, m, _, rfl⟩ := hx; exact .inr (.inl ⟨_, _, _, rfl, rfl, rfl⟩)
  · subst hx; exact .inr (.inr (.inl ⟨_, none, _, _, rfl, rfl, rfl⟩))
  · obtain ⟨b, m, o, c, _, rfl, _⟩ := hx; exact .inr (.inr (.inl ⟨_, _, _, _, rfl, rfl, rfl⟩))
  · subst hx; exact .inr (.inr (.inr ⟨rfl, .inl ⟨rfl, rfl⟩⟩))
  · obtain ⟨y, rfl, _⟩ := hx; exact .inr (.inr (.inr ⟨rfl, .inr ⟨_, _, rfl, rfl⟩⟩))
theorem nilP_run {t : Nat} {d : TD} (h : mkTD P t = some d) (f : Nat) {x y : CV} {u v : Value} {a b r : Bool} (hx : x.R ρ u) (hy : y.R ρ v) (ha : nilP d.k x = some a) (hb : nilP d.k y = some b) (hr : (a = true ∧ r = b) ∨ (a = false ∧ b = true ∧ r = false)) :
    (Op.equalIn (f + 1) t u v).run P w = .ok r w := by
  have two : ∀ {α : Type} (p : Option α), p.isNone = true → p = none := fun p hp => by cases p <;> first | rfl | cases hp
  have some' : ∀ {α : Type} (p : Option α), p.isNone = false → ∃ z, p = some z := fun p hp => by cases p <;> first | exact ⟨_, rfl⟩ | cases hp
  rcases nilP_spec ha hx with ⟨e, p, hk, rfl, e1⟩ | ⟨e, g, p, hk, rfl, e1⟩ | ⟨e, A, n, c, hk, rfl, e1⟩ | ⟨hk, hx'⟩
  · have hu := u_ptr h hk
    rcases nilP_spec hb hy with ⟨e', q, hk', rfl, e2⟩ | ⟨_, _, _, hk', _⟩ | ⟨_, _, _, _, hk', _⟩ | ⟨hk', _⟩ <;> try (rw [hk] at hk'; cases hk')
    rcases hr with ⟨rfl, rfl⟩ | ⟨rfl, rfl, rfl⟩
    · rw [two p e1, eqIn_ptr1 f hu q, e2]
    · obtain ⟨z, rfl⟩ := some' p e1
      rw [two q e2]
      exact eqIn_ptr2 f hu z
  · have hu := u_mp h hk
    rcases nilP_spec hb hy with ⟨_, _, hk', _⟩ | ⟨e', _, q, hk', rfl, e2⟩ | ⟨_, _, _, _, hk', _⟩ | ⟨hk', _⟩ <;> try (rw [hk] at hk'; cases hk')
    rcases hr with ⟨rfl, rfl⟩ | ⟨rfl, rfl, rfl⟩
    · rw [two p e1, eqIn_map1 f hu q, e2]
    · obtain ⟨z, rfl⟩ := some' p e1
      rw [two q e2]
      exact eqIn_map2 f hu z
  · have hu := u_sl h hk
    rcases nilP_spec hb hy with ⟨_, _, hk', _⟩ | ⟨_, _, _, hk', _⟩ | ⟨e', B, n', c', hk', rfl, e2⟩ | ⟨hk', _⟩ <;> try (rw [hk] at hk'; cases hk')
    rcases hr with ⟨rfl, rfl⟩ | ⟨rfl, rfl, rfl⟩
    · rw [two A e1, eqIn_sl2 f hu B, e2]
    · obtain ⟨z, rfl⟩ := some' A e1
      rw [two B e2]
      exact eqIn_slA f hu (some z) n c n' c'
  · obtain ⟨ms, hu⟩ := u_ifc h hk
    rcases nilP_spec hb hy with ⟨_, _, hk', _⟩ | ⟨_, _, _, hk', _⟩ | ⟨_, _, _, _, hk', _⟩ | ⟨hk', hy'⟩ <;> try (rw [hk] at hk'; cases hk')
    rcases hx' with ⟨rfl, rfl⟩ | ⟨s, z, rfl, rfl⟩ <;> rcases hy' with ⟨rfl, rfl⟩ | ⟨s', z', rfl, rfl⟩
    · rcases hr with ⟨_, rfl⟩ | ⟨h1, _⟩
      · exact eqIn_ifc0 f hu
      · cases h1
    · rcases hr with ⟨_, rfl⟩ | ⟨h1, _⟩
      · exact eqIn_ifc1 f hu
      · cases h1
    · rcases hr with ⟨h1, _⟩ | ⟨_, _, rfl⟩
      · cases h1
      · exact eqIn_ifc2 f hu
    · rcases hr with ⟨h1, _⟩ | ⟨_, h1, _⟩ <;> cases h1
theorem thenB_some {o k : Option Bool} {r : Bool} (h : thenB o k = some r) : (o = some true ∧ k = some r) ∨ (o = some false ∧ r = false) := by
  unfold thenB at h
  split at h
  · exact .inl ⟨rfl, h⟩
  · rename_i hne
    subst h
    cases r with
    | true => exact absurd rfl hne
    | false => exact .inr ⟨rfl, rfl⟩
/-- Equality at a type is what the model's is. -/
theorem eqT_run (f : Nat) : ∀ (t : Nat) (x y : CV) (u v : Value) (r : Bool) (n : Nat), f ≤ n → x.R ρ u → y.R ρ v → eqT (mkTD P) f t x y = some r → (Op.equalIn n t u v).run P w = .ok r w := by
  induction f with
  | zero => intro t x y u v r n hn hx hy h; cases h
  | succ f ih =>
    intro t x y u v r n hn hx hy h
    obtain ⟨n, rfl⟩ : ∃ m, n = m + 1 := ⟨n - 1, by omega⟩
    have hn : f ≤ n := by omega
    unfold eqT at h
    simp only at h
    split at h
    · cases h
    · rename_i d hd
      split at h
      · rename_i k hk
        split at h
        · rename_i k1 a k2 b
          cases he : eqK k1 k2 with
          | false => rw [he] at h; cases h
          | true =>
            rw [he] at h
            have := eqK_spec he
            subst this
            simp only [cond_true, Option.some.injEq] at h
            simp only [CV.R] at hx hy
            subst hx hy h
            rw [run_equalIn_int w n t k1 k a b (u_int hd hk), eqI_eq, beq_dec]
        · cases h
      · rename_i hk
        split at h
        · rename_i a b
          simp only [Option.some.injEq] at h
          simp only [CV.R] at hx hy
          obtain ⟨h1, rfl⟩ := hx
          obtain ⟨h2, rfl⟩ := hy
          subst h
          rw [run_equalIn_string w n t _ _ (u_str hd hk), data_toList (l := List.map UInt8.ofNat a), data_toList (l := List.map UInt8.ofNat b), lbeq_eq, beq_dec]
          congr 2
          exact propext ⟨fun e => u8s_inj h1 h2 e, fun e => by rw [e]⟩
        · cases h
      · rename_i hk
        split at h
        · rename_i a b
          simp only [Option.some.injEq] at h
          simp only [CV.R] at hx hy
          subst hx hy h
          rw [run_equalIn_bool' w n t a b (u_bool hd hk)]
          cases a <;> cases b <;> rfl
        · cases h
      · rename_i fs hk
        split at h
        · rename_i xs ys
          cases he : d.eq with
          | false => rw [he] at h; cases h
          | true =>
            rw [he] at h
            simp only [cond_true] at h
            simp only [CV.R] at hx hy
            obtain ⟨as, rfl, rx⟩ := hx
            obtain ⟨bs, rfl, ry⟩ := hy
            obtain ⟨fa, h1, rfl⟩ := u_st hd hk
            have h4 : eqB P t = true := by
              obtain ⟨u, i, _, _, h3⟩ := mkTD_spec hd
              rw [← he, h3]
            unfold eqB at h4
            rw [h1] at h4
            simp only [Bool.and_eq_true, Bool.not_eq_true'] at h4
            obtain ⟨⟨g1, g2⟩, g3⟩ := h4
            have hf : P.fieldsOf t = fa := by simp only [Program.fieldsOf, h1]
            rw [run_equalIn_agg w n t _ _ (by rw [hf]; exact h1) g2, hf]
            clear h1 hk hf
            have h : eqFsC (mkTD P) (eqT (mkTD P) f) xs ys (fa.toList.map fun f => (f.offset, f.type)) = some r := h
            generalize fa.toList = l at h g3
            induction l with
            | nil =>
              have h : some true = some r := h
              simp only [Option.some.injEq] at h; subst h; rfl
            | cons fl l ihl =>
              simp only [List.all_cons, Bool.and_eq_true, Bool.not_eq_true', beq_eq_false_iff_ne] at g3
              have h : (match partC (mkTD P) fl.type xs fl.offset, partC (mkTD P) fl.type ys fl.offset with
                | some a, some b => thenB (eqT (mkTD P) f fl.type a b) (eqFsC (mkTD P) (eqT (mkTD P) f) xs ys (l.map fun f => (f.offset, f.type)))
                | _, _ => none) = some r := h
              split at h
              · rename_i a b ha hb
                obtain ⟨u, e1, r1⟩ := part_ok (P := P) (w := w) rx ha
                obtain ⟨v, e2, r2⟩ := part_ok (P := P) (w := w) ry hb
                simp only [Op.eqFields]
                rw [if_pos g3.1]
                simp only [Sem.run_bind]
                rw [e1]
                simp only [Result.andThen_ok]
                rw [e2]
                simp only [Result.andThen_ok]
                rcases thenB_some h with ⟨he', h⟩ | ⟨he', rfl⟩
                · rw [ih _ _ _ _ _ _ n hn r1 r2 he']
                  simp only [Result.andThen_ok, Bool.not_true, Bool.false_eq_true, if_false]
                  exact ihl h g3.2
                · rw [ih _ _ _ _ _ _ n hn r1 r2 he']
                  simp
              · cases h
        · cases h
      · rename_i m e hk
        split at h
        · rename_i xs ys de hde
          simp only [CV.R] at hx hy
          obtain ⟨as, rfl, rx⟩ := hx
          obtain ⟨bs, rfl, ry⟩ := hy
          obtain ⟨i, hi, hsz, _⟩ := u_info hde
          have hce : P.cellsOf e = de.size := by rw [← hsz]; show ((P.info? e).map (·.size)).getD 0 = _; rw [hi]; rfl
          rw [run_equalIn_array w n as.toArray bs.toArray (u_arr hd hk) hi, hce, List.range_eq_range']
          have key : ∀ (m s : Nat), eqIsC (mkTD P) (eqT (mkTD P) f e) e de.size xs ys m s = some r → (Op.eqItems n e de.size as.toArray bs.toArray (List.range' s m)).run P w = .ok r w := by
            intro m
            induction m with
            | zero =>
              intro s h
              have h : some true = some r := h
              simp only [Option.some.injEq] at h; subst h; rfl
            | succ m ihm =>
              intro s h
              have h : (match partC (mkTD P) e xs (s * de.size), partC (mkTD P) e ys (s * de.size) with
                | some a, some b => thenB (eqT (mkTD P) f e a b) (eqIsC (mkTD P) (eqT (mkTD P) f e) e de.size xs ys m (s + 1))
                | _, _ => none) = some r := h
              split at h
              · rename_i a b ha hb
                obtain ⟨u, e1, r1⟩ := part_ok (P := P) (w := w) rx ha
                obtain ⟨v, e2, r2⟩ := part_ok (P := P) (w := w) ry hb
                rw [List.range'_succ]
                simp only [Op.eqItems, Sem.run_bind]
                rw [e1]
                simp only [Result.andThen_ok]
                rw [e2]
                simp only [Result.andThen_ok]
                rcases thenB_some h with ⟨he', h⟩ | ⟨he', rfl⟩
                · rw [ih _ _ _ _ _ _ n hn r1 r2 he']
                  simp only [Result.andThen_ok, Bool.not_true, Bool.false_eq_true, if_false]
                  exact ihm _ h
                · rw [ih _ _ _ _ _ _ n hn r1 r2 he']
                  simp
              · cases h
          exact key m 0 h
        · cases h
      · rename_i k hk1 hk2 hk3 hk4 hk5
        split at h
        · rename_i b ha hb
          injection h with h
          subst h
          exact nilP_run hd n hx hy ha hb (.inl ⟨rfl, rfl⟩)
        · rename_i ha hb
          injection h with h
          subst h
          exact nilP_run hd n hx hy ha hb (.inr ⟨rfl, rfl, rfl⟩)
        · cases h
end
end Go.Proofs.YtjhaikcokbmdbaaGreatDoor.Cx
