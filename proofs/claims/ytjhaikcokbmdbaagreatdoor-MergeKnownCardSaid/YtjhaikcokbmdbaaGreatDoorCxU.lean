/-
  Closed runs: plans.
-/
import Derived.Test.YtjhaikcokbmdbaaGreatDoorCxT
namespace Go.Proofs.YtjhaikcokbmdbaaGreatDoor.Cx
open Go.RowKit Go.Proofs.YtjhaikcokbmdbaaGreatDoor.Ax

/-! What is surely the same. -/
theorem ceqF_spec : ∀ (n : Nat) (x y : CV), ceqF n x y = true → x = y
  | 0, _, _, h => by cases h
  | n + 1, x, y, h => by
    have lists : ∀ (a b : List CV), (List.rec (motive := fun _ => List CV → Bool) (fun b => match b with
        | [] => true
        | _ => false) (fun x _ r b => match b with
        | [] => false
        | y :: ys => ceqF n x y && r ys) a : List CV → Bool) b = true → a = b := by
      intro a
      induction a with
      | nil => intro b h; cases b with
        | nil => rfl
        | cons y ys => cases h
      | cons x xs ih =>
        intro b h
        cases b with
        | nil => cases h
        | cons y ys =>
          have h : (ceqF n x y && _) = true := h
          rw [Bool.and_eq_true] at h
          rw [ceqF_spec n x y h.1, ih ys h.2]
    unfold ceqF at h
    simp only at h
    split at h
    · rw [Bool.and_eq_true] at h; rw [eqK_spec h.1]; have := h.2; rw [eqI_eq] at this; rw [of_decide_eq_true this]
    · rename_i a b; cases a <;> cases b <;> first | rfl | cases h
    · rw [lbeq_eq] at h; rw [of_decide_eq_true h]
    · rw [Bool.and_eq_true] at h; rw [Nat.eq_of_beq_eq_true h.1, Nat.eq_of_beq_eq_true h.2]
    · rw [Bool.and_eq_true] at h; rw [Nat.eq_of_beq_eq_true h.1, Nat.eq_of_beq_eq_true h.2]
    · simp only [Bool.and_eq_true] at h
      obtain ⟨⟨⟨⟨h1, h2⟩, h3⟩, h4⟩, h5⟩ := h
      rw [Nat.eq_of_beq_eq_true h1, Nat.eq_of_beq_eq_true h2, Nat.eq_of_beq_eq_true h3, Nat.eq_of_beq_eq_true h4]
      split at h5
      · rfl
      · rw [Nat.eq_of_beq_eq_true h5]
      · cases h5
    · rw [Nat.eq_of_beq_eq_true h]
    · rw [Nat.eq_of_beq_eq_true h]
    · rw [lists _ _ h]
    · rw [lists _ _ h]
    · rw [Bool.and_eq_true] at h; rw [Nat.eq_of_beq_eq_true h.1, ceqF_spec n _ _ h.2]
    · simp only [Bool.and_eq_true] at h
      obtain ⟨⟨h1, h2⟩, h3⟩ := h
      have e2 := ceqF_spec n _ _ h2
      have e3 := ceqF_spec n _ _ h3
      injection e2 with e2
      injection e3 with e3
      rw [Nat.eq_of_beq_eq_true h1, e2, e3]
    · rfl
    · rfl
    · rfl
    · rfl
    · rfl
    · rw [Nat.eq_of_beq_eq_true h]
    · rfl
    · cases h
theorem ceq_spec {x y : CV} (h : ceq x y = true) : x = y := ceqF_spec 8 x y h

/-! Plans. -/
theorem rdy_spec {o : Oper} {m : Nat} (h : rdy o m = true) : ∀ ed ∈ o.after, Region.binds .any ed = true → m.testBit ed.on = true := by
  unfold rdy at h
  intro ed hed hb
  have hed : ed ∈ o.after.toList := by simpa using hed
  generalize o.after.toList = l at h hed
  induction l with
  | nil => cases hed
  | cons x xs ih =>
    have h : (bif !(Region.binds .any x) || Nat.testBit m x.on then (List.rec (motive := fun _ => Bool) true (fun e _ r => bif !(Region.binds .any e) || Nat.testBit m e.on then r else false) xs : Bool) else false) = true := h
    cases hc : (!(Region.binds .any x) || Nat.testBit m x.on) with
    | false => rw [hc] at h; cases h
    | true =>
      rw [hc] at h
      rcases List.mem_cons.1 hed with rfl | hed
      · simpa [hb] using hc
      · exact ih h hed
theorem rdy_of {o : Oper} {m : Nat} (h : ∀ ed ∈ o.after, Region.binds .any ed = true → m.testBit ed.on = true) : rdy o m = true := by
  unfold rdy
  have h : ∀ ed ∈ o.after.toList, Region.binds .any ed = true → m.testBit ed.on = true := fun ed hed => h ed (by simpa using hed)
  generalize o.after.toList = l at h
  induction l with
  | nil => rfl
  | cons x xs ih =>
    show (bif !(Region.binds .any x) || Nat.testBit m x.on then (List.rec (motive := fun _ => Bool) true (fun e _ r => bif !(Region.binds .any e) || Nat.testBit m e.on then r else false) xs : Bool) else false) = true
    have : (!(Region.binds .any x) || Nat.testBit m x.on) = true := by
      cases hb : Region.binds .any x with
      | false => rfl
      | true => simpa using h x (List.mem_cons_self ..) hb
    rw [this]
    exact ih fun ed hed => h ed (List.mem_cons_of_mem _ hed)
theorem cands_spec (T : TTr) (vs : List Nat) (eff : Bool) (m : Nat) : ∀ (l : List Oper) (s i : Nat), i ∈ cands T vs eff m l s ↔ ∃ k o, l[k]? = some o ∧ i = s + k ∧ m.testBit i = false ∧ isE T vs o = eff ∧ rdy o m = true
  | [], s, i => by
    show i ∈ [] ↔ _
    simp
  | o :: l, s, i => by
    have ih := cands_spec T vs eff m l (s + 1) i
    have step : i ∈ cands T vs eff m (o :: l) s ↔ (i = s ∧ m.testBit s = false ∧ isE T vs o = eff ∧ rdy o m = true) ∨ i ∈ cands T vs eff m l (s + 1) := by
      show i ∈ (bif !(Nat.testBit m s) && (isE T vs o == eff) && rdy o m then s :: cands T vs eff m l (s + 1) else cands T vs eff m l (s + 1)) ↔ _
      cases hc : (!(Nat.testBit m s) && (isE T vs o == eff) && rdy o m) with
      | true =>
        simp only [Bool.and_eq_true, Bool.not_eq_true', beq_iff_eq] at hc
        simp only [cond_true, List.mem_cons]
        constructor
        · rintro (h | h)
          · exact .inl ⟨h, hc.1.1, hc.1.2, hc.2⟩
          · exact .inr h
        · rintro (h | h)
          · exact .inl h.1
          · exact .inr h
      | false =>
        simp only [cond_false]
        constructor
        · exact .inr
        · rintro (⟨_, h1, h2, h3⟩ | h)
          · simp [h1, h2, h3] at hc
          · exact h
    rw [step, ih]
    constructor
    · rintro (⟨rfl, h⟩ | ⟨k, o', h1, h2, h3⟩)
      · exact ⟨0, o, rfl, rfl, h⟩
      · exact ⟨k + 1, o', by simpa using h1, by omega, h3⟩
    · rintro ⟨k, o', h1, h2, h3⟩
      cases k with
      | zero =>
        have h1 : some o = some o' := h1
        injection h1 with h1
        subst h1
        have : i = s := by omega
        subst this
        exact .inl ⟨rfl, h3⟩
      | succ k => exact .inr ⟨k, o', by simpa using h1, by omega, h3⟩
theorem again_spec (T : TTr) (vs : List Nat) (mm m : Nat) : ∀ (l : List Oper) (s k : Nat) (o : Oper), l[k]? = some o → m.testBit (s + k) = true → isRd T o.op = true → isE T vs o = false → mm.testBit (s + k) = false → s + k ∈ again T vs mm m l s
  | [], _, _, _, h, _, _, _, _ => by simp at h
  | o :: l, s, k, o', h, h1, h2, h3, h4 => by
    show s + k ∈ (bif Nat.testBit m s && isRd T o.op && !(isE T vs o) && !(Nat.testBit mm s) then s :: again T vs mm m l (s + 1) else again T vs mm m l (s + 1))
    cases k with
    | zero =>
      have h : some o = some o' := h
      injection h with h
      subst h
      have h1 : m.testBit s = true := h1
      have h4 : mm.testBit s = false := h4
      rw [h1, h2, h3, h4]
      exact List.mem_cons_self ..
    | succ k =>
      have := again_spec T vs mm m l (s + 1) k o' (by simpa using h) (by rw [show s + 1 + k = s + (k + 1) by omega]; exact h1) h2 h3 (by rw [show s + 1 + k = s + (k + 1) by omega]; exact h4)
      rw [show s + 1 + k = s + (k + 1) by omega] at this
      cases (Nat.testBit m s && isRd T o.op && !(isE T vs o) && !(Nat.testBit mm s)) with
      | true => exact List.mem_cons_of_mem _ this
      | false => exact this
/-! What lies behind an operation. -/
noncomputable def maskOf (acc : List Nat) (o : Oper) : Nat := List.rec (motive := fun _ => Nat) 0 (fun e _ s => bif Region.binds .any e then Nat.lor s (Nat.lor (2 ^ e.on) ((nth acc e.on).getD 0)) else s) o.after.toList
theorem masks_cons (o : Oper) (l : List Oper) (acc : List Nat) : masks (o :: l) acc = masks l (catL acc [maskOf acc o]) := by
  show natK (maskOf acc o) (fun m => masks l (catL acc [m])) = _
  rw [natK_eq]
theorem maskOf_spec {D : Nat → Prop} {acc : List Nat} {o : Oper} (h : ∀ ed ∈ o.after, Region.binds .any ed = true → D ed.on ∧ ∀ i, ((nth acc ed.on).getD 0).testBit i = true → D i) : ∀ i, (maskOf acc o).testBit i = true → D i := by
  unfold maskOf
  have h : ∀ ed ∈ o.after.toList, Region.binds .any ed = true → D ed.on ∧ ∀ i, ((nth acc ed.on).getD 0).testBit i = true → D i := fun ed hed => h ed (by simpa using hed)
  generalize o.after.toList = l at h
  induction l with
  | nil => intro i hi; simp at hi
  | cons x xs ih =>
    have ih := ih fun ed hed => h ed (List.mem_cons_of_mem _ hed)
    intro i hi
    have hi : (bif Region.binds .any x then Nat.lor (List.rec (motive := fun _ => Nat) 0 (fun e _ s => bif Region.binds .any e then Nat.lor s (Nat.lor (2 ^ e.on) ((nth acc e.on).getD 0)) else s) xs : Nat) (Nat.lor (2 ^ x.on) ((nth acc x.on).getD 0)) else (List.rec (motive := fun _ => Nat) 0 (fun e _ s => bif Region.binds .any e then Nat.lor s (Nat.lor (2 ^ e.on) ((nth acc e.on).getD 0)) else s) xs : Nat)).testBit i = true := hi
    cases hb : Region.binds .any x with
    | false => rw [hb] at hi; exact ih i hi
    | true =>
      rw [hb] at hi
      obtain ⟨h1, h2⟩ := h x (List.mem_cons_self ..) hb
      simp only [cond_true] at hi
      have hi : (_ ||| (2 ^ x.on ||| ((nth acc x.on).getD 0))).testBit i = true := hi
      rw [Nat.testBit_or, Nat.testBit_or, Bool.or_eq_true, Bool.or_eq_true] at hi
      rcases hi with hi | hi | hi
      · exact ih i hi
      · rw [Nat.testBit_two_pow] at hi
        have : x.on = i := of_decide_eq_true hi
        rw [← this]; exact h1
      · exact h2 i hi
/-- What is behind an operation lies in every set that is closed downwards. -/
def MaskOk (ops : List Oper) (k : Nat) (m : Nat) : Prop := ∀ (D : Nat → Prop) (o : Oper), (∀ i o, ops[i]? = some o → D i → ∀ ed ∈ o.after, Region.binds .any ed = true → D ed.on) → ops[k]? = some o →
  (∀ ed ∈ o.after, Region.binds .any ed = true → D ed.on) → ∀ i, m.testBit i = true → D i
theorem masks_spec (ops : List Oper) : ∀ (l : List Oper) (acc : List Nat), ops = ops.take acc.length ++ l → acc.length ≤ ops.length → (∀ k m, acc[k]? = some m → MaskOk ops k m) → ∀ k m, (masks l acc)[k]? = some m → MaskOk ops k m
  | [], acc, _, _, h => h
  | o :: l, acc, hs, hle, h => by
    rw [masks_cons, catL_eq]
    have ho : ops[acc.length]? = some o := by
      rw [hs, List.getElem?_append_right (by simp [Nat.min_eq_left hle])]
      simp [Nat.min_eq_left hle]
    have hlt := (List.getElem?_eq_some_iff.1 ho).1
    refine masks_spec ops l _ ?_ (by simp; omega) fun k m hk => ?_
    · rw [List.length_append, List.length_singleton]
      have : ops.take (acc.length + 1) = ops.take acc.length ++ [o] := by
        rw [List.take_add_one, ho]; rfl
      rw [this, List.append_assoc]
      exact hs
    · rw [List.getElem?_append] at hk
      split at hk
      · exact h k m hk
      · rename_i hge
        have hk0 : k - acc.length = 0 := by
          have := (List.getElem?_eq_some_iff.1 hk).1
          simp at this
          omega
        rw [hk0] at hk
        have hk : some (maskOf acc o) = some m := hk
        injection hk with hk
        subst hk
        have hkk : k = acc.length := by omega
        subst hkk
        intro D o' hD ho' hed
        rw [ho] at ho'
        injection ho' with ho'
        subst ho'
        refine maskOf_spec fun ed he hb => ⟨hed ed he hb, fun i hi => ?_⟩
        rw [nth_eq] at hi
        cases ha : acc[ed.on]? with
        | none => rw [ha] at hi; simp at hi
        | some m' =>
          rw [ha] at hi
          have hlt' : ed.on < ops.length := Nat.lt_of_lt_of_le (List.getElem?_eq_some_iff.1 ha).1 hle
          exact h ed.on m' ha D ops[ed.on] hD (List.getElem?_eq_getElem hlt') (hD ed.on _ (List.getElem?_eq_getElem hlt') (hed ed he hb)) i hi
theorem mask_ok {ops : List Oper} {j : Nat} {D : Nat → Prop} {o : Oper} (hD : ∀ i o, ops[i]? = some o → D i → ∀ ed ∈ o.after, Region.binds .any ed = true → D ed.on) (ho : ops[j]? = some o) (h : ∀ ed ∈ o.after, Region.binds .any ed = true → D ed.on) :
    ∀ i, ((nth (masks ops []) j).getD 0).testBit i = true → D i := by
  intro i hi
  rw [nth_eq] at hi
  cases hm : (masks ops [])[j]? with
  | none => rw [hm] at hi; simp at hi
  | some m =>
    rw [hm] at hi
    exact masks_spec ops ops [] rfl (Nat.zero_le _) (fun k m hk => by simp at hk) j m hm D o hD ho h i hi
/-! What a region's slots are checked for. -/
theorem memN_iff {x : Nat} : ∀ {l : List Nat}, memN x l = true ↔ x ∈ l
  | [] => by show false = true ↔ _; simp
  | y :: ys => by
    show (bif Nat.beq x y then true else memN x ys) = true ↔ _
    cases h : Nat.beq x y with
    | true => have := Nat.eq_of_beq_eq_true h; subst this; simp
    | false =>
      have hne : x ≠ y := fun e => by subst e; simp at h
      simp only [cond_false]
      rw [memN_iff (l := ys)]
      simp [hne]
theorem direct_spec {k : Nat} {o : Oper} (h : direct k o = true) : ∃ ed ∈ o.after, Region.binds .any ed = true ∧ ed.on = k := by
  unfold direct at h
  have : ∃ ed ∈ o.after.toList, Region.binds .any ed = true ∧ ed.on = k := by
    generalize o.after.toList = l at h
    induction l with
    | nil => cases h
    | cons x xs ih =>
      have h : (bif Region.binds .any x && Nat.beq x.on k then true else (List.rec (motive := fun _ => Bool) false (fun e _ r => bif Region.binds .any e && Nat.beq e.on k then true else r) xs : Bool)) = true := h
      cases hc : (Region.binds .any x && Nat.beq x.on k) with
      | true =>
        rw [Bool.and_eq_true] at hc
        exact ⟨x, List.mem_cons_self .., hc.1, Nat.eq_of_beq_eq_true hc.2⟩
      | false =>
        rw [hc] at h
        obtain ⟨ed, h1, h2⟩ := ih h
        exact ⟨ed, List.mem_cons_of_mem _ h1, h2⟩
  obtain ⟨ed, h1, h2⟩ := this
  exact ⟨ed, by simpa using h1, h2⟩
theorem chkOne_spec {ops : List Oper} {ms : List Nat} {i : Nat} {o : Oper} : ∀ (l : List Oper) (s k : Nat) (o' : Oper) (t : Nat), chkOne ops ms i o l s = true → l[k]? = some o' → o'.dst = some t →
    (t ∈ looksL ops o → (direct (s + k) o || Nat.testBit ((nth ms (s + k)).getD 0) i) = true) ∧ (i ≠ s + k → o.dst ≠ some t)
  | [], _, _, _, _, _, h, _ => by simp at h
  | x :: l, s, k, o', t, hc, h, ht => by
    cases k with
    | zero =>
      have h : some x = some o' := h
      injection h with h
      subst h
      have hc : (match x.dst with
        | none => fun r => r
        | some t => fun r => bif (bif memN t (looksL ops o) then direct s o || Nat.testBit ((nth ms s).getD 0) i else true) && (bif Nat.beq i s then true else !(memN t (dstL (some o)))) then r else false : Bool → Bool) (chkOne ops ms i o l (s + 1)) = true := hc
      rw [ht] at hc
      simp only at hc
      cases hb : ((bif memN t (looksL ops o) then direct s o || Nat.testBit ((nth ms s).getD 0) i else true) && (bif Nat.beq i s then true else !(memN t (dstL (some o))))) with
      | false => rw [hb] at hc; cases hc
      | true =>
        rw [Bool.and_eq_true] at hb
        refine ⟨fun hm => ?_, fun hne he => ?_⟩
        · have := memN_iff.2 hm
          rw [this] at hb
          exact hb.1
        · have h0 : Nat.beq i s = false := by
            cases hbe : Nat.beq i s with
            | false => rfl
            | true => exact absurd (Nat.eq_of_beq_eq_true hbe) hne
          rw [h0] at hb
          have h2 := hb.2
          simp only [cond_false, dstL, he] at h2
          have : memN t [t] = true := memN_iff.2 (List.mem_singleton.2 rfl)
          rw [this] at h2
          cases h2
    | succ k =>
      have hc : (match x.dst with
        | none => fun r => r
        | some t => fun r => bif (bif memN t (looksL ops o) then direct s o || Nat.testBit ((nth ms s).getD 0) i else true) && (bif Nat.beq i s then true else !(memN t (dstL (some o)))) then r else false : Bool → Bool) (chkOne ops ms i o l (s + 1)) = true := hc
      have hc : chkOne ops ms i o l (s + 1) = true := by
        cases hd : x.dst with
        | none => rw [hd] at hc; exact hc
        | some t' =>
          rw [hd] at hc
          simp only at hc
          cases hb : ((bif memN t' (looksL ops o) then direct s o || Nat.testBit ((nth ms s).getD 0) i else true) && (bif Nat.beq i s then true else !(memN t' (dstL (some o))))) with
          | false => rw [hb] at hc; cases hc
          | true => rw [hb] at hc; exact hc
      have := chkOne_spec l (s + 1) k o' t hc (by simpa using h) ht
      rw [show s + 1 + k = s + (k + 1) by omega] at this
      exact this
theorem chkF_spec {ops : List Oper} {ms : List Nat} : ∀ (l : List Oper) (s i : Nat) (o : Oper), chkF ops ms l s = true → l[i]? = some o → chkOne ops ms (s + i) o ops 0 = true
  | [], _, _, _, _, h => by simp at h
  | x :: l, s, i, o, hc, h => by
    have hc : (bif chkOne ops ms s x ops 0 then chkF ops ms l (s + 1) else false) = true := hc
    cases hb : chkOne ops ms s x ops 0 with
    | false => rw [hb] at hc; cases hc
    | true =>
      rw [hb] at hc
      cases i with
      | zero =>
        have h : some x = some o := h
        injection h with h
        subst h
        exact hb
      | succ i =>
        have := chkF_spec l (s + 1) i o hc (by simpa using h)
        rw [show s + 1 + i = s + (i + 1) by omega] at this
        exact this
theorem anyLook_of {ops : List Oper} {t k : Nat} : ∀ {l : List Oper} {o : Oper}, o ∈ l → t ∈ looksL ops o → direct k o = false → anyLook ops t k l = true
  | [], _, h, _, _ => by cases h
  | x :: l, o, h, h1, h2 => by
    show (bif memN t (looksL ops x) && !(direct k x) then true else anyLook ops t k l) = true
    rcases List.mem_cons.1 h with rfl | h
    · rw [memN_iff.2 h1, h2]; rfl
    · rw [anyLook_of h h1 h2]
      cases (memN t (looksL ops x) && !(direct k x)) <;> rfl
theorem ovsF_cons (ops : List Oper) (o : Oper) (l : List Oper) (k : Nat) : ovsF ops (o :: l) k = match o.dst with
  | none => ovsF ops l (k + 1)
  | some t => bif anyLook ops t k ops then t :: ovsF ops l (k + 1) else ovsF ops l (k + 1) := rfl
theorem ovsF_of {ops : List Oper} {t : Nat} : ∀ {l : List Oper} {s k : Nat} {o : Oper}, l[k]? = some o → o.dst = some t → anyLook ops t (s + k) ops = true → t ∈ ovsF ops l s
  | [], _, _, _, h, _, _ => by simp at h
  | x :: l, s, k, o, h, hd, ha => by
    rw [ovsF_cons]
    cases k with
    | zero =>
      have h : some x = some o := h
      injection h with h
      subst h
      rw [hd]
      have ha : anyLook ops t s ops = true := ha
      simp only [ha, cond_true]
      exact List.mem_cons_self ..
    | succ k =>
      have := ovsF_of (s := s + 1) (by simpa using h) hd (by rw [show s + 1 + k = s + (k + 1) by omega]; exact ha)
      split
      · exact this
      · rename_i t' _
        cases anyLook ops t' s ops with
        | true => exact List.mem_cons_of_mem _ this
        | false => exact this
theorem chkR_spec {T : TTr} {ops : Array Oper} (h : chkR ops.toList = true) {i k : Nat} {o o' : Oper} {t : Nat} (hi : ops[i]? = some o) (hk : ops[k]? = some o') (ht : o'.dst = some t) :
    (t ∈ looksL ops.toList o → (∃ ed ∈ o.after, Region.binds .any ed = true ∧ ed.on = k) ∨ isE T (ovsL ops.toList) o' = true ∧ ((nth (masks ops.toList []) k).getD 0).testBit i = true) ∧ (i ≠ k → o.dst ≠ some t) := by
  have h1 := chkF_spec ops.toList 0 i o h (by simpa using hi)
  rw [Nat.zero_add] at h1
  obtain ⟨h2, h3⟩ := chkOne_spec ops.toList 0 k o' t h1 (by simpa using hk) ht
  rw [Nat.zero_add] at h2 h3
  refine ⟨fun hm => ?_, h3⟩
  have h4 := h2 hm
  cases hd : direct k o with
  | true => exact .inl (direct_spec hd)
  | false =>
    rw [hd, Bool.false_or] at h4
    refine .inr ⟨?_, h4⟩
    have hv : t ∈ ovsL ops.toList := ovsF_of (s := 0) (k := k) (by simpa using hk) ht (by rw [Nat.zero_add]; exact anyLook_of (List.mem_of_getElem? (by simpa using hi)) hm hd)
    unfold isE isOv
    rw [ht]
    simp only [memN_iff.2 hv, Bool.or_true]
end Go.Proofs.YtjhaikcokbmdbaaGreatDoor.Cx
