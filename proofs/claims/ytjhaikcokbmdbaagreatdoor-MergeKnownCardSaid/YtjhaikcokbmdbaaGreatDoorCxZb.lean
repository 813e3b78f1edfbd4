/-
  Closed runs: what is thrown away at a return.
-/
import Derived.Test.YtjhaikcokbmdbaaGreatDoorCxV
namespace Go.Proofs.YtjhaikcokbmdbaaGreatDoor.Cx
open Go.RowKit Go.Proofs.YtjhaikcokbmdbaaGreatDoor.Ax

/-! The same answers. -/
theorem ckeq_spec {a b : CK} (h : ckeq a b = true) : a = b := by
  cases a <;> cases b <;> simp only [ckeq] at h <;> try cases h
  · rw [lbeq_eq] at h; rw [of_decide_eq_true h]
  · rw [Bool.and_eq_true] at h; have h2 := h.2; rw [eqI_eq] at h2; rw [eqK_spec h.1, of_decide_eq_true h2]
  · rw [kieq_eq] at h; rw [of_decide_eq_true h]
theorem ckeqL_spec : ∀ {a b : List CK}, ckeqL a b = true → a = b
  | [], [], _ => rfl
  | [], _ :: _, h => by cases h
  | _ :: _, [], h => by cases h
  | x :: xs, y :: ys, h => by
    have h : (ckeq x y && ckeqL xs ys) = true := h
    rw [Bool.and_eq_true] at h
    rw [ckeq_spec h.1, ckeqL_spec h.2]
theorem meqL_spec : ∀ {a b : List (CK × CV)}, meqL a b = true → a = b
  | [], [], _ => rfl
  | [], _ :: _, h => by cases h
  | _ :: _, [], h => by cases h
  | (k, x) :: xs, (j, y) :: ys, h => by
    have h : (ckeq k j && ceq x y && meqL xs ys) = true := h
    simp only [Bool.and_eq_true] at h
    rw [ckeq_spec h.1.1, ceq_spec h.1.2, meqL_spec h.2]
theorem beqL_spec : ∀ {a b : List (CK × Nat)}, beqL a b = true → a = b
  | [], [], _ => rfl
  | [], _ :: _, h => by cases h
  | _ :: _, [], h => by cases h
  | x :: xs, y :: ys, h => by
    have h : (ckeq x.1 y.1 && Nat.beq x.2 y.2 && beqL xs ys) = true := h
    simp only [Bool.and_eq_true] at h
    obtain ⟨⟨h1, h2⟩, h3⟩ := h
    have : x = y := Prod.ext (ckeq_spec h1) (Nat.eq_of_beq_eq_true h2)
    rw [this, beqL_spec h3]
theorem bseq_spec {a b : Option (Nat × List (CK × Nat))} (h : bseq a b = true) : a = b := by
  unfold bseq at h
  split at h
  · rfl
  · rw [Bool.and_eq_true] at h
    rw [Nat.eq_of_beq_eq_true h.1, beqL_spec h.2]
  · cases h
theorem cheq_spec {a b : Chunk} (h : cheq a b = true) : a = b := by
  unfold cheq at h
  split at h
  · have := ceqF_spec _ _ _ h; injection this with this; rw [this]
  · simp only [Bool.and_eq_true] at h
    rw [eqKK_spec h.1.1.1, Nat.eq_of_beq_eq_true h.1.1.2, meqL_spec h.1.2, bseq_spec h.2]
  · simp only [Bool.and_eq_true] at h
    obtain ⟨⟨⟨h1, h2⟩, h3⟩, h4⟩ := h
    rw [Nat.eq_of_beq_eq_true h1, Nat.eq_of_beq_eq_true h2, ckeqL_spec h3]
    split at h4
    · rfl
    · rw [ckeq_spec h4]
    · cases h4
  · rw [Bool.and_eq_true] at h
    have h1 := h.1
    rw [lbeq_eq] at h1
    rw [of_decide_eq_true h1, Nat.eq_of_beq_eq_true h.2]
  · cases h
theorem treq_nd (v w : Option Chunk) (l r l' r' : Tr Chunk) : treq (.nd v l r) (.nd w l' r') = ((match v, w with
      | none, none => true
      | some x, some y => cheq x y
      | _, _ => false) && treq l l' && treq r r') := rfl
theorem treq_spec : ∀ {a b : Tr Chunk}, treq a b = true → a = b
  | .lf, .lf, _ => rfl
  | .lf, .nd .., h => by cases h
  | .nd .., .lf, h => by cases h
  | .nd v l r, .nd w l' r', h => by
    rw [treq_nd] at h
    simp only [Bool.and_eq_true] at h
    obtain ⟨⟨h1, h2⟩, h3⟩ := h
    rw [treq_spec h2, treq_spec h3]
    split at h1
    · rfl
    · rw [cheq_spec h1]
    · cases h1
theorem heq_spec {a b : CH} (h : heq a b = true) : a = b := by
  unfold heq at h
  rw [Bool.and_eq_true] at h
  obtain ⟨n, t⟩ := a
  obtain ⟨n', t'⟩ := b
  have h1 : n = n' := Nat.eq_of_beq_eq_true h.1
  have h2 : t = t' := treq_spec h.2
  rw [h1, h2]
theorem feq_spec {a b : Fin} (h : feq a b = true) : a = b := by
  unfold feq at h
  split at h
  · rw [Bool.and_eq_true] at h; rw [ceq_spec h.1, heq_spec h.2]
  · rw [Bool.and_eq_true] at h; rw [ceq_spec h.1, heq_spec h.2]
  · cases h
theorem anyF_mem {x : Fin} : ∀ {l : List Fin}, anyF x l = true → x ∈ l
  | [], h => by cases h
  | y :: ys, h => by
    have h : (bif feq x y then true else anyF x ys) = true := h
    cases hb : feq x y with
    | true => rw [feq_spec hb]; exact List.mem_cons_self ..
    | false => rw [hb] at h; exact List.mem_cons_of_mem _ (anyF_mem h)
theorem dedupL_cons (y : Fin) (ys : List Fin) : dedupL (y :: ys) = match dedupL ys with
  | [] => [y]
  | r => bif anyF y r then r else y :: r := rfl
theorem mem_dedupL {x : Fin} : ∀ {l : List Fin}, x ∈ l → x ∈ dedupL l
  | [], h => by cases h
  | y :: ys, h => by
    have ih : x ∈ ys → x ∈ dedupL ys := fun h => mem_dedupL h
    rw [dedupL_cons]
    generalize dedupL ys = r at ih
    cases r with
    | nil =>
      rcases List.mem_cons.1 h with rfl | h
      · exact List.mem_cons_self ..
      · cases ih h
    | cons z zs =>
      show x ∈ (bif anyF y (z :: zs) then z :: zs else y :: z :: zs)
      cases hb : anyF y (z :: zs) with
      | true =>
        rcases List.mem_cons.1 h with rfl | h
        · exact anyF_mem hb
        · exact ih h
      | false =>
        rcases List.mem_cons.1 h with rfl | h
        · exact List.mem_cons_self ..
        · exact List.mem_cons_of_mem _ (ih h)

/-! Memory that is kept. -/
theorem allLt_cat {n : Nat} : ∀ {a b : List Nat}, allLt n (catL a b) = true → allLt n a = true ∧ allLt n b = true
  | [], _, h => ⟨rfl, h⟩
  | x :: xs, b, h => by
    have h : (bif Nat.blt x n then allLt n (catL xs b) else false) = true := h
    cases hb : Nat.blt x n with
    | false => rw [hb] at h; cases h
    | true =>
      rw [hb] at h
      obtain ⟨h1, h2⟩ := allLt_cat h
      refine ⟨?_, h2⟩
      show (bif Nat.blt x n then allLt n xs else false) = true
      rw [hb]
      exact h1
theorem allLt_cons {n x : Nat} {xs : List Nat} (h : allLt n (x :: xs) = true) : x < n ∧ allLt n xs = true := by
  have h : (bif Nat.blt x n then allLt n xs else false) = true := h
  cases hb : Nat.blt x n with
  | false => rw [hb] at h; cases h
  | true => rw [hb] at h; exact ⟨by rw [← Nat.blt_eq]; exact hb, h⟩
def Rho.cut (ρ : Rho) (n : Nat) : Rho := fun j => if j < n then ρ j else none
theorem cut_some {ρ : Rho} {n j : Nat} {p : Nat × Nat} (h : ρ.cut n j = some p) : ρ j = some p := by
  unfold Rho.cut at h
  split at h
  · exact h
  · cases h
theorem cut_lt {ρ : Rho} {n j : Nat} (h : j < n) : ρ.cut n j = ρ j := if_pos h
section
variable {ρ : Rho} {n2 : Nat}
noncomputable def hsLn (n : Nat) (cs : List CV) : List Nat := List.rec (motive := fun _ => List Nat) [] (fun c _ r => catL (hsF n c) r) cs
theorem R_cut (hn : n2 ≤ 1000000000000) : ∀ (n : Nat) (x : CV) (u : Value), allLt n2 (hsF n x) = true → x.R ρ u → x.R (ρ.cut n2) u
  | 0, _, _, h, _ => by
    have := (allLt_cons (n := n2) (x := 1000000000000) (xs := []) h).1
    omega
  | n + 1, x, u, h, hx => by
    have lists : ∀ (cs : List CV) (vs : List Value), allLt n2 (hsLn n cs) = true → CV.Rs ρ cs vs → CV.Rs (ρ.cut n2) cs vs := by
      intro cs
      induction cs with
      | nil => intro vs _ h; simpa only [CV.Rs] using h
      | cons c cs ih =>
        intro vs h hr
        simp only [CV.Rs] at hr ⊢
        obtain ⟨y, ys, rfl, r, rs⟩ := hr
        obtain ⟨h1, h2⟩ := allLt_cat (a := hsF n c) (b := hsLn n cs) h
        exact ⟨y, ys, rfl, R_cut hn n c y h1 r, ih ys h2 rs⟩
    cases x with
    | v y => simpa only [CV.R] using hx
    | int k m => simpa only [CV.R] using hx
    | bool b => simpa only [CV.R] using hx
    | str l => simpa only [CV.R] using hx
    | gp g o => simpa only [CV.R] using hx
    | junk => simp only [CV.R]
    | ptr hh o =>
      have h1 := (allLt_cons (n := n2) (x := hh) (xs := []) h).1
      simp only [CV.R] at hx ⊢
      rw [cut_lt h1]; exact hx
    | row hh s o l c =>
      have h1 := (allLt_cons (n := n2) (x := hh) (xs := []) h).1
      simp only [CV.R] at hx ⊢
      rw [cut_lt h1]; exact hx
    | mp hh =>
      have h1 := (allLt_cons (n := n2) (x := hh) (xs := []) h).1
      simp only [CV.R] at hx ⊢
      rw [cut_lt h1]; exact hx
    | yld hh =>
      have h1 := (allLt_cons (n := n2) (x := hh) (xs := []) h).1
      simp only [CV.R] at hx ⊢
      rw [cut_lt h1]; exact hx
    | agg cs =>
      simp only [CV.R] at hx ⊢
      obtain ⟨vs, e, r⟩ := hx
      exact ⟨vs, e, lists cs vs h r⟩
    | tup cs =>
      simp only [CV.R] at hx ⊢
      obtain ⟨vs, e, r⟩ := hx
      exact ⟨vs, e, lists cs vs h r⟩
    | ifc t y =>
      simp only [CV.R] at hx ⊢
      obtain ⟨z, e, r⟩ := hx
      exact ⟨z, e, R_cut hn n y z h r⟩
    | fnc f a c =>
      simp only [CV.R] at hx ⊢
      obtain ⟨as, cs, e, r, s⟩ := hx
      obtain ⟨h1, h2⟩ := allLt_cat (a := hsLn n a) (b := hsLn n c) h
      exact ⟨as, cs, e, lists a as h1 r, lists c cs h2 s⟩
theorem Rs_cut (hn : n2 ≤ 1000000000000) : ∀ (cs : List CV) (vs : List Value), allLt n2 (hsL cs) = true → CV.Rs ρ cs vs → CV.Rs (ρ.cut n2) cs vs
  | [], _, _, h => by simpa only [CV.Rs] using h
  | c :: cs, _, h, hr => by
    simp only [CV.Rs] at hr ⊢
    obtain ⟨y, ys, rfl, r, rs⟩ := hr
    obtain ⟨h1, h2⟩ := allLt_cat (a := hsF 8 c) (b := hsL cs) h
    exact ⟨y, ys, rfl, R_cut hn 8 c y h1 r, Rs_cut hn cs ys h2 rs⟩
theorem ZipR.mem_mono {X : Type} {R R' : X → Value → Prop} : ∀ {l : List MapEntry} {m : List (MK × X)}, (∀ p ∈ m, ∀ v, R p.2 v → R' p.2 v) → ZipR R l m → ZipR R' l m
  | [], _, _, h => h
  | e :: es, m, hm, ⟨p, ps, e1, e2, e3, e4⟩ => by
    subst e1
    exact ⟨p, ps, rfl, e2, hm p (List.mem_cons_self ..) _ e3, ZipR.mem_mono (fun q hq => hm q (List.mem_cons_of_mem _ hq)) e4⟩
noncomputable def hsTr (t : Tr CV) : List Nat := Tr.rec (motive := fun _ => List Nat) [] (fun v _ _ l r => catL (match v with
  | some v => hsF 8 v
  | none => []) (catL l r)) t
def hsO (x : Option CV) (k : CV → List Nat) : List Nat := match x with
  | some v => k v
  | none => []
theorem hsTr_nd (x : Option CV) (l r : Tr CV) : hsTr (.nd x l r) = catL (hsO x (hsF 8)) (catL (hsTr l) (hsTr r)) := by cases x <;> rfl
theorem hsTr_get : ∀ (p : Pt) (t : Tr CV) (v : CV), allLt n2 (hsTr t) = true → Tr.getP p t = some v → allLt n2 (hsF 8 v) = true
  | p, .lf, v, _, h => by rw [Tr.getP_lf] at h; cases h
  | p, .nd x l r, v, ha, h => by
    rw [hsTr_nd] at ha
    obtain ⟨h1, h2⟩ := allLt_cat ha
    obtain ⟨h3, h4⟩ := allLt_cat (a := hsTr l) (b := hsTr r) h2
    cases p with
    | z =>
      have h : x = some v := h
      subst h
      exact h1
    | l p => exact hsTr_get p l v h3 h
    | r p => exact hsTr_get p r v h4 h
theorem Chunk.R_cut (hn : n2 ≤ 1000000000000) {p : Nat × Nat} {w : World} {c : Chunk} (ha : allLt n2 (hsC c) = true) (h : c.R ρ p w) : c.R (ρ.cut n2) p w := by
  cases c with
  | cells cs => obtain ⟨arr, e, fr, vs, h1, h2, h3, h4, h5⟩ := h; exact ⟨arr, e, fr, vs, h1, h2, h3, Rs_cut hn cs vs ha h4, h5⟩
  | map kk ver m bs =>
    obtain ⟨es, clock, h1, h2, h3⟩ := h
    refine ⟨es, clock, h1, ⟨h2.kind, ?_, h2.keys, h2.born, h2.clock⟩, h3⟩
    obtain ⟨l, hp, hz⟩ := h2.zip
    refine ⟨l, hp, ZipR.mem_mono (fun q hq v hv => ?_) hz⟩
    obtain ⟨q', hq', rfl⟩ := List.mem_map.1 hq
    refine Cx.R_cut hn 8 q'.2 v ?_ hv
    have key : ∀ m : List (CK × CV), allLt n2 (List.rec (motive := fun _ => List Nat) [] (fun p _ r => catL (hsF 8 p.2) r) m : List Nat) = true → ∀ q ∈ m, allLt n2 (hsF 8 q.2) = true := by
      intro m
      induction m with
      | nil => intro _ q hq; cases hq
      | cons x xs ih =>
        intro h q hq
        obtain ⟨h1, h2⟩ := allLt_cat (a := hsF 8 x.2) (b := (List.rec (motive := fun _ => List Nat) [] (fun p _ r => catL (hsF 8 p.2) r) xs : List Nat)) h
        rcases List.mem_cons.1 hq with rfl | hq
        · exact h1
        · exact ih h2 q hq
    exact key m ha q' hq'
  | miter hm ver left last =>
    obtain ⟨bm, mm, since, seen, st, h1, h2, h3⟩ := h
    exact ⟨bm, mm, since, seen, st, (cut_lt (allLt_cons ha).1).trans h1, h2, h3⟩
  | siter l pos => exact h
  | loop st pend fid N tmps params asg body dh =>
    obtain ⟨fn, tv, bd, md, h1, h2, h3, h4⟩ := h
    obtain ⟨a1, a2⟩ := allLt_cons (x := dh) (xs := hsTr tmps) ha
    exact ⟨fn, tv, bd, md, (cut_lt a1).trans h1, h2, h3, fun t v ht => ⟨(h4 t v ht).1, Cx.R_cut hn 8 v _ (hsTr_get _ _ _ a2 ht) (h4 t v ht).2⟩⟩
  | dfr => exact h
end
/-! Handles renamed. -/
theorem allIn_cons {n0 x : Nat} {s xs : List Nat} (h : allIn n0 s (x :: xs) = true) : (x < n0 ∨ x ∈ s) ∧ allIn n0 s xs = true := by
  have h : (bif Nat.blt x n0 || memN x s then allIn n0 s xs else false) = true := h
  cases hb : (Nat.blt x n0 || memN x s) with
  | false => rw [hb] at h; cases h
  | true =>
    rw [hb] at h
    rw [Bool.or_eq_true, Nat.blt_eq, memN_iff] at hb
    exact ⟨hb, h⟩
theorem allIn_cat {n0 : Nat} {s : List Nat} : ∀ {a b : List Nat}, allIn n0 s (catL a b) = true → allIn n0 s a = true ∧ allIn n0 s b = true
  | [], _, h => ⟨rfl, h⟩
  | x :: xs, b, h => by
    have h : (bif Nat.blt x n0 || memN x s then allIn n0 s (catL xs b) else false) = true := h
    cases hb : (Nat.blt x n0 || memN x s) with
    | false => rw [hb] at h; cases h
    | true =>
      rw [hb] at h
      obtain ⟨h1, h2⟩ := allIn_cat h
      refine ⟨?_, h2⟩
      show (bif Nat.blt x n0 || memN x s then allIn n0 s xs else false) = true
      rw [hb]
      exact h1
/-- Where a handle comes from. -/
def src (n0 : Nat) (s : List Nat) (j : Nat) : Option Nat := if j < n0 then some j else s[j - n0]?
def Rho.ren (ρ : Rho) (n0 : Nat) (s : List Nat) : Rho := fun j => (src n0 s j).bind ρ
theorem idx_spec {h : Nat} : ∀ {s : List Nat} {i : Nat}, h ∈ s → ∃ j, idx s h i = i + j ∧ s[j]? = some h
  | [], _, hm => by cases hm
  | x :: xs, i, hm => by
    have e : idx (x :: xs) h i = bif Nat.beq x h then i else idx xs h (i + 1) := rfl
    rw [e]
    cases hb : Nat.beq x h with
    | true =>
      have := Nat.eq_of_beq_eq_true hb
      subst this
      exact ⟨0, rfl, rfl⟩
    | false =>
      have hne : x ≠ h := fun e => by subst e; simp at hb
      obtain ⟨j, h1, h2⟩ := idx_spec (i := i + 1) ((List.mem_cons.1 hm).resolve_left fun e => hne e.symm)
      exact ⟨j + 1, by rw [cond_false, h1]; omega, by simpa using h2⟩
theorem src_rn {n0 h : Nat} {s : List Nat} (hd : h < n0 ∨ h ∈ s) : src n0 s (rn n0 s h) = some h := by
  unfold rn
  cases hb : Nat.blt h n0 with
  | true =>
    rw [Nat.blt_eq] at hb
    simp only [cond_true]
    exact if_pos hb
  | false =>
    have hge : ¬ h < n0 := fun h' => by rw [← Nat.blt_eq] at h'; rw [h'] at hb; cases hb
    obtain ⟨j, h1, h2⟩ := idx_spec (i := n0) (hd.resolve_left hge)
    simp only [cond_false, h1]
    unfold src
    rw [if_neg (by omega), Nat.add_sub_cancel_left]
    exact h2
section
variable {ρ : Rho} {n0 : Nat} {s : List Nat}
theorem ren_rn {h : Nat} (hd : h < n0 ∨ h ∈ s) : ρ.ren n0 s (rn n0 s h) = ρ h := by
  unfold Rho.ren
  rw [src_rn hd]
  rfl
theorem ren_lt {h : Nat} (hd : h < n0) : ρ.ren n0 s h = ρ h := by
  unfold Rho.ren src
  rw [if_pos hd]
  rfl
theorem mapL_cons {α β : Type} (f : α → β) (x : α) (xs : List α) : mapL f (x :: xs) = f x :: mapL f xs := rfl
theorem R_ren (hs : ndB n0 s = true) (hn : n0 < 1000000000000) : ∀ (n : Nat) (x : CV) (u : Value), allIn n0 s (hsF n x) = true → x.R ρ u → (rnF n0 s n x).R (ρ.ren n0 s) u
  | 0, _, _, h, _ => by
    have h1 := (allIn_cons (n0 := n0) (s := s) (x := 1000000000000) (xs := []) h).1
    have lt : ∀ (l : List Nat), ndB n0 l = true → ∀ x ∈ l, x < 1000000000000 := by
      intro l
      induction l with
      | nil => intro _ x hx; cases hx
      | cons y ys ih =>
        intro hl x hx
        have hl : (bif Nat.ble n0 y && Nat.blt y 1000000000000 && !(memN y ys) then ndB n0 ys else false) = true := hl
        cases hb : (Nat.ble n0 y && Nat.blt y 1000000000000 && !(memN y ys)) with
        | false => rw [hb] at hl; cases hl
        | true =>
          rw [hb] at hl
          simp only [Bool.and_eq_true, Nat.blt_eq] at hb
          rcases List.mem_cons.1 hx with rfl | hx
          · exact hb.1.2
          · exact ih hl x hx
    rcases h1 with h1 | h1
    · omega
    · exact absurd (lt s hs _ h1) (by omega)
  | n + 1, x, u, h, hx => by
    have lists : ∀ (cs : List CV) (vs : List Value), allIn n0 s (hsLn n cs) = true → CV.Rs ρ cs vs → CV.Rs (ρ.ren n0 s) (mapL (rnF n0 s n) cs) vs := by
      intro cs
      induction cs with
      | nil => intro vs _ h; simpa only [CV.Rs, mapL] using h
      | cons c cs ih =>
        intro vs h hr
        rw [mapL_cons]
        simp only [CV.Rs] at hr ⊢
        obtain ⟨y, ys, rfl, r, rs⟩ := hr
        obtain ⟨h1, h2⟩ := allIn_cat (a := hsF n c) (b := hsLn n cs) h
        exact ⟨y, ys, rfl, R_ren hs hn n c y h1 r, ih ys h2 rs⟩
    cases x with
    | v y => show (CV.v y).R _ u; simpa only [CV.R] using hx
    | int k m => show (CV.int k m).R _ u; simpa only [CV.R] using hx
    | bool b => show (CV.bool b).R _ u; simpa only [CV.R] using hx
    | str l => show (CV.str l).R _ u; simpa only [CV.R] using hx
    | gp g o => show (CV.gp g o).R _ u; simpa only [CV.R] using hx
    | junk => show CV.junk.R _ u; simp only [CV.R]
    | ptr hh o =>
      have h1 := (allIn_cons (n0 := n0) (s := s) (x := hh) (xs := []) h).1
      show (CV.ptr (rn n0 s hh) o).R _ u
      simp only [CV.R] at hx ⊢
      rw [ren_rn h1]; exact hx
    | row hh z o l c =>
      have h1 := (allIn_cons (n0 := n0) (s := s) (x := hh) (xs := []) h).1
      show (CV.row (rn n0 s hh) z o l c).R _ u
      simp only [CV.R] at hx ⊢
      rw [ren_rn h1]; exact hx
    | mp hh =>
      have h1 := (allIn_cons (n0 := n0) (s := s) (x := hh) (xs := []) h).1
      show (CV.mp (rn n0 s hh)).R _ u
      simp only [CV.R] at hx ⊢
      rw [ren_rn h1]; exact hx
    | yld hh =>
      have h1 := (allIn_cons (n0 := n0) (s := s) (x := hh) (xs := []) h).1
      show (CV.yld (rn n0 s hh)).R _ u
      simp only [CV.R] at hx ⊢
      rw [ren_rn h1]; exact hx
    | agg cs =>
      show (CV.agg (mapL (rnF n0 s n) cs)).R _ u
      simp only [CV.R] at hx ⊢
      obtain ⟨vs, e, r⟩ := hx
      exact ⟨vs, e, lists cs vs h r⟩
    | tup cs =>
      show (CV.tup (mapL (rnF n0 s n) cs)).R _ u
      simp only [CV.R] at hx ⊢
      obtain ⟨vs, e, r⟩ := hx
      exact ⟨vs, e, lists cs vs h r⟩
    | ifc t y =>
      show (CV.ifc t (rnF n0 s n y)).R _ u
      simp only [CV.R] at hx ⊢
      obtain ⟨z, e, r⟩ := hx
      exact ⟨z, e, R_ren hs hn n y z h r⟩
    | fnc f a c =>
      show (CV.fnc f (mapL (rnF n0 s n) a) (mapL (rnF n0 s n) c)).R _ u
      simp only [CV.R] at hx ⊢
      obtain ⟨as, cs, e, r, q⟩ := hx
      obtain ⟨h1, h2⟩ := allIn_cat (a := hsLn n a) (b := hsLn n c) h
      exact ⟨as, cs, e, lists a as h1 r, lists c cs h2 q⟩
theorem Rs_ren (hs : ndB n0 s = true) (hn : n0 < 1000000000000) : ∀ (cs : List CV) (vs : List Value), allIn n0 s (hsL cs) = true → CV.Rs ρ cs vs → CV.Rs (ρ.ren n0 s) (mapL (rnF n0 s 8) cs) vs
  | [], _, _, h => by simpa only [CV.Rs, mapL] using h
  | c :: cs, _, h, hr => by
    rw [mapL_cons]
    simp only [CV.Rs] at hr ⊢
    obtain ⟨y, ys, rfl, r, rs⟩ := hr
    obtain ⟨h1, h2⟩ := allIn_cat (a := hsF 8 c) (b := hsL cs) h
    exact ⟨y, ys, rfl, R_ren hs hn 8 c y h1 r, Rs_ren hs hn cs ys h2 rs⟩
theorem Zip_ren (hs : ndB n0 s = true) (hn : n0 < 1000000000000) : ∀ (m : List (CK × CV)) (l : List MapEntry), allIn n0 s (List.rec (motive := fun _ => List Nat) [] (fun p _ r => catL (hsF 8 p.2) r) m : List Nat) = true →
    ZipR (CV.R ρ) l (toM m) → ZipR (CV.R (ρ.ren n0 s)) l (toM (mapL (rnP n0 s) m))
  | [], [], _, _ => by trivial
  | [], _ :: _, _, h => by
    obtain ⟨p, ps, e, _⟩ := h
    cases e
  | q :: qs, [], _, h => by
    exact absurd (show toM (q :: qs) = [] from h) (by simp [toM])
  | q :: qs, e :: es, ha, h => by
    obtain ⟨p, ps, e1, e2, e3, e4⟩ := h
    have e1 : (q.1.mk, q.2) :: toM qs = p :: ps := e1
    injection e1 with f1 f2
    subst f1 f2
    obtain ⟨h1, h2⟩ := allIn_cat (a := hsF 8 q.2) (b := (List.rec (motive := fun _ => List Nat) [] (fun p _ r => catL (hsF 8 p.2) r) qs : List Nat)) ha
    exact ⟨(q.1.mk, rnF n0 s 8 q.2), toM (mapL (rnP n0 s) qs), rfl, e2, R_ren hs hn 8 _ _ h1 e3, Zip_ren hs hn qs es h2 e4⟩
theorem keys_ren : ∀ (m : List (CK × CV)), (mapL (rnP n0 s) m).map (·.1) = m.map (·.1)
  | [] => rfl
  | q :: qs => by
    rw [mapL_cons]
    simp only [List.map_cons, keys_ren qs]
    rfl
theorem hsTrI_get : ∀ (p : Pt) (t : Tr CV) (v : CV), allIn n0 s (hsTr t) = true → Tr.getP p t = some v → allIn n0 s (hsF 8 v) = true
  | p, .lf, v, _, h => by rw [Tr.getP_lf] at h; cases h
  | p, .nd x l r, v, ha, h => by
    rw [hsTr_nd] at ha
    obtain ⟨h1, h2⟩ := allIn_cat ha
    obtain ⟨h3, h4⟩ := allIn_cat (a := hsTr l) (b := hsTr r) h2
    cases p with
    | z =>
      have h : x = some v := h
      subst h
      exact h1
    | l p => exact hsTrI_get p l v h3 h
    | r p => exact hsTrI_get p r v h4 h
theorem rnT_get : ∀ (p : Pt) (t : Tr CV), Tr.getP p (rnT n0 s t) = rnO n0 s (Tr.getP p t)
  | p, .lf => by
    show Tr.getP p .lf = _
    rw [Tr.getP_lf]
    rfl
  | .z, .nd x l r => rfl
  | .l p, .nd x l r => rnT_get p l
  | .r p, .nd x l r => rnT_get p r
theorem Chunk.R_ren (hs : ndB n0 s = true) (hn : n0 < 1000000000000) {p : Nat × Nat} {w : World} {c : Chunk} (ha : allIn n0 s (hsC c) = true) (h : c.R ρ p w) : (rnC n0 s c).R (ρ.ren n0 s) p w := by
  cases c with
  | cells cs => obtain ⟨arr, e, fr, vs, h1, h2, h3, h4, h5⟩ := h; exact ⟨arr, e, fr, vs, h1, h2, h3, Rs_ren hs hn cs vs ha h4, h5⟩
  | map kk ver m bs =>
    obtain ⟨es, clock, h1, h2, h3⟩ := h
    have hk : (toM (mapL (rnP n0 s) m)).map (·.1) = (toM m).map (·.1) := by
      have := congrArg (List.map CK.mk) (keys_ren (n0 := n0) (s := s) m)
      simpa [toM, List.map_map, Function.comp_def] using this
    refine ⟨es, clock, h1, ⟨fun q hq => ?_, ?_, by rw [hk]; exact h2.keys, h2.born, h2.clock⟩, fun q hq => ?_, h3.2⟩
    · have : q.1 ∈ (toM m).map (·.1) := by rw [← hk]; exact List.mem_map_of_mem hq
      obtain ⟨q', hq', e⟩ := List.mem_map.1 this
      rw [← e]
      exact h2.kind q' hq'
    · obtain ⟨l, hp, hz⟩ := h2.zip
      exact ⟨l, hp, Zip_ren hs hn m l ha hz⟩
    · have : q.1 ∈ m.map (·.1) := by rw [← keys_ren (n0 := n0) (s := s) m]; exact List.mem_map_of_mem hq
      obtain ⟨q', hq', e⟩ := List.mem_map.1 this
      rw [← e]
      exact h3.1 q' hq'
  | miter hm ver left last =>
    obtain ⟨bm, mm, since, seen, st, h1, h2, h3⟩ := h
    exact ⟨bm, mm, since, seen, st, (ren_rn (allIn_cons ha).1).trans h1, h2, h3⟩
  | siter l pos => exact h
  | loop st pend fid N tmps params asg body dh =>
    obtain ⟨fn, tv, bd, md, h1, h2, h3, h4⟩ := h
    obtain ⟨a1, a2⟩ := allIn_cons (x := dh) (xs := hsTr tmps) ha
    refine ⟨fn, tv, bd, md, (ren_rn a1).trans h1, h2, h3, fun t v ht => ?_⟩
    have ht : Tr.getP (path t) (rnT n0 s tmps) = some v := ht
    rw [rnT_get] at ht
    cases hg : Tr.getP (path t) tmps with
    | none => rw [hg] at ht; cases ht
    | some v0 =>
      rw [hg] at ht
      injection ht with ht
      subst ht
      exact ⟨(h4 t v0 hg).1, Cx.R_ren hs hn 8 v0 _ (hsTrI_get _ _ _ a2 hg) (h4 t v0 hg).2⟩
  | dfr => exact h
end
theorem ndB_spec {n0 : Nat} : ∀ {s : List Nat}, ndB n0 s = true → s.Nodup ∧ ∀ x ∈ s, n0 ≤ x
  | [], _ => ⟨List.nodup_nil, fun x hx => by cases hx⟩
  | y :: ys, h => by
    have h : (bif Nat.ble n0 y && Nat.blt y 1000000000000 && !(memN y ys) then ndB n0 ys else false) = true := h
    cases hb : (Nat.ble n0 y && Nat.blt y 1000000000000 && !(memN y ys)) with
    | false => rw [hb] at h; cases h
    | true =>
      rw [hb] at h
      obtain ⟨h1, h2⟩ := ndB_spec h
      simp only [Bool.and_eq_true, Bool.not_eq_true'] at hb
      refine ⟨List.nodup_cons.2 ⟨fun hm => ?_, h1⟩, fun x hx => ?_⟩
      · rw [memN_iff.2 hm] at hb; cases hb.2
      · rcases List.mem_cons.1 hx with rfl | hx
        · exact Nat.le_of_ble_eq_true hb.1.1
        · exact h2 x hx
/-- A chunk as it was, or renamed. -/
def Ch (n0 : Nat) (s : List Nat) (c c2 : Chunk) : Prop := (c2 = c ∧ allLt n0 (hsC c) = true) ∨ (c2 = rnC n0 s c ∧ allIn n0 s (hsC c) = true)
/-- Less memory, renamed. -/
structure Cut (n0 : Nat) (s : List Nat) (v v2 : CV) (H H2 : CH) : Prop where
  next : H2.next = n0 + s.length
  nd : ndB n0 s = true
  hi : n0 < 1000000000000
  low : gmaps.length ≤ n0
  val : allIn n0 s (hsF 8 v) = true
  val2 : v2 = rnF n0 s 8 v
  get : ∀ h c2, H2.get h = some c2 → ∃ h0 c, src n0 s h = some h0 ∧ H.get h0 = some c ∧ Ch n0 s c c2
theorem src_inj {n0 : Nat} {s : List Nat} (hs : ndB n0 s = true) {a b c : Nat} (h1 : src n0 s a = some c) (h2 : src n0 s b = some c) : a = b := by
  obtain ⟨hn, hg⟩ := ndB_spec hs
  unfold src at h1 h2
  split at h1 <;> split at h2
  · injection h1 with h1; injection h2 with h2; omega
  · injection h1 with h1
    have := hg c (List.mem_of_getElem? h2)
    omega
  · injection h2 with h2
    have := hg c (List.mem_of_getElem? h1)
    omega
  · have := (List.getElem?_inj (List.getElem?_eq_some_iff.1 h1).1 hn).1 (h1.trans h2.symm)
    omega
theorem Ch.miter {n0 : Nat} {s : List Nat} {c : Chunk} {hm2 ver : Nat} {left : List CK} {last : Option CK} (h : Ch n0 s c (.miter hm2 ver left last)) : ∃ hm, c = .miter hm ver left last ∧ src n0 s hm2 = some hm := by
  rcases h with ⟨h1, h2⟩ | ⟨h1, h2⟩
  · subst h1
    exact ⟨hm2, rfl, if_pos (allLt_cons h2).1⟩
  · cases c with
    | miter hm ver' left' last' =>
      have h1 : Chunk.miter hm2 ver left last = .miter (rn n0 s hm) ver' left' last' := h1
      injection h1 with e1 e2 e3 e4
      subst e1 e2 e3 e4
      exact ⟨hm, rfl, src_rn (allIn_cons h2).1⟩
    | cells _ => cases h1
    | map _ _ _ _ => cases h1
    | siter _ _ => cases h1
    | loop _ _ _ _ _ _ _ _ _ => cases h1
    | dfr => cases h1
theorem Ch.map {n0 : Nat} {s : List Nat} {c : Chunk} {kk : KK} {v : Nat} {m2 : List (CK × CV)} {bs : Option (Nat × List (CK × Nat))} (h : Ch n0 s c (.map kk v m2 bs)) : ∃ m, c = .map kk v m bs := by
  rcases h with ⟨h1, h2⟩ | ⟨h1, h2⟩
  · exact ⟨m2, h1.symm⟩
  · cases c with
    | map kk' v' m bs' =>
      have h1 : Chunk.map kk v m2 bs = .map kk' v' (mapL (rnP n0 s) m) bs' := h1
      injection h1 with e1 e2 e3 e4
      subst e1 e2 e4
      exact ⟨m, rfl⟩
    | cells _ => cases h1
    | miter _ _ _ _ => cases h1
    | siter _ _ => cases h1
    | loop _ _ _ _ _ _ _ _ _ => cases h1
    | dfr => cases h1
theorem SR.ren {ρ : Rho} {W : World} {H H2 : CH} {w : World} {v v2 : CV} {n0 : Nat} {s : List Nat} (hS : SR W ρ H w) (hC : Cut n0 s v v2 H H2) : SR W (ρ.ren n0 s) H2 w := by
  have get : ∀ {h h0 : Nat}, src n0 s h = some h0 → ρ.ren n0 s h = ρ h0 := fun e => by unfold Rho.ren; rw [e]; rfl
  refine ⟨hS.base, fun h c2 hc => ?_, fun h hh => ?_, fun h c2 p hc hp => ?_, fun h h' c c' p p' h1 h2 h3 h4 h5 => ?_, fun h p hm2 q ver left last kk m2 bs bm since seen st es clock v h1 h2 h3 h4 => ?_, fun i x hx => ?_⟩
  · obtain ⟨h0, c, g1, g2, g3⟩ := hC.get h c2 hc
    obtain ⟨p, h1, h2⟩ := hS.rel h0 c g2
    refine ⟨p, (get g1).trans h1, ?_⟩
    rcases g3 with ⟨e, ha⟩ | ⟨e, ha⟩
    · subst e
      refine Chunk.R_keep (Chunk.R_cut (by have := hC.hi; omega) ha h2) (fun j q hj => ?_) rfl
      unfold Rho.cut at hj
      split at hj
      · rename_i hlt
        rw [ren_lt hlt]; exact hj
      · cases hj
    · subst e
      exact Chunk.R_ren hC.nd hC.hi ha h2
  · rw [hC.next] at hh
    unfold Rho.ren src
    rw [if_neg (by omega), List.getElem?_eq_none (by omega)]
    rfl
  · obtain ⟨h0, c, g1, g2, g3⟩ := hC.get h c2 hc
    exact hS.new h0 c p g2 ((get g1).symm.trans hp)
  · obtain ⟨a0, ca, g1, g2, g3⟩ := hC.get h c h1
    obtain ⟨b0, cb, k1, k2, k3⟩ := hC.get h' c' h2
    refine hS.apart a0 b0 ca cb p p' g2 k2 (fun e => h3 ?_) ((get g1).symm.trans h4) ((get k1).symm.trans h5)
    subst e
    exact src_inj hC.nd g1 k1
  · obtain ⟨a0, ca, g1, g2, g3⟩ := hC.get h _ h1
    obtain ⟨b0, cb, k1, k2, k3⟩ := hC.get hm2 _ h2
    obtain ⟨hm, e1, e2⟩ := g3.miter
    obtain ⟨m, e3⟩ := k3.map
    have : hm = b0 := by rw [e2] at k1; injection k1
    subst this e1 e3
    exact hS.iter a0 p hm q ver left last kk m bs bm since seen st es clock v g2 k2 ((get g1).symm.trans h3) ((get k1).symm.trans h4)
  · obtain ⟨h1, r, h2, h3⟩ := hS.gm i x hx
    have hlt : i < n0 := Nat.lt_of_lt_of_le (List.getElem?_eq_some_iff.1 hx).1 hC.low
    exact ⟨by rw [hC.next]; omega, r, (ren_lt hlt).trans h2, h3⟩
theorem rootsT_ex (n0 : Nat) (_ : List Nat → List Fin) : ∀ (t : Tr Chunk) (a b : Nat) (s : List Nat) (k : List Nat → List Fin), ∃ s', rootsT n0 t a b s k = k s'
  | .lf, _, _, s, k => ⟨s, rfl⟩
  | .nd v l r, a, b, s, k => by
    have e : rootsT n0 (.nd v l r) a b s k = (match v with
      | none => fun k => k s
      | some c => fun k => bif Nat.blt b n0 then natsK (newH n0 (hsC c) s) k else k s : (List Nat → List Fin) → List Fin) fun s => rootsT n0 l (2 * a) (a + b) s fun s => rootsT n0 r (2 * a) (2 * a + b) s k := rfl
    rw [e]
    have two : ∀ s, ∃ s', (rootsT n0 l (2 * a) (a + b) s fun s => rootsT n0 r (2 * a) (2 * a + b) s k) = k s' := fun s => by
      obtain ⟨s1, h1⟩ := rootsT_ex n0 k l (2 * a) (a + b) s (fun s => rootsT n0 r (2 * a) (2 * a + b) s k)
      obtain ⟨s2, h2⟩ := rootsT_ex n0 k r (2 * a) (2 * a + b) s1 k
      exact ⟨s2, h1.trans h2⟩
    cases v with
    | none => exact two s
    | some c =>
      simp only [natsK_eq]
      cases Nat.blt b n0 with
      | true => exact two _
      | false => exact two s
theorem reachF_ex (n0 : Nat) (H : CH) : ∀ (n : Nat) (todo s : List Nat) (k : List Nat → List Fin), ∃ s', reachF n0 H n todo s k = k s'
  | 0, _, s, _ => ⟨s, rfl⟩
  | n + 1, todo, s, k => by
    cases todo with
    | nil => exact ⟨s, rfl⟩
    | cons h todo =>
      have e : reachF n0 H (n + 1) (h :: todo) s k = (match H.get h with
        | none => reachF n0 H n todo s k
        | some c => natsK (newH n0 (hsC c) s) fun s' => natsK (catL (takeL s' (len s' - len s)) todo) fun todo => reachF n0 H n todo s' k) := rfl
      rw [e]
      split
      · exact reachF_ex n0 H n todo s k
      · rw [natsK_eq, natsK_eq]; exact reachF_ex n0 H n _ _ k
theorem valsK_eq {β : Type} : ∀ (m : List (CK × CV)) (k : List (CK × CV) → β), valsK m k = k m
  | [], _ => rfl
  | p :: ps, k => (CV.elemK_eq p.2 fun x => valsK ps fun xs => k ((p.1, x) :: xs)).trans (valsK_eq ps _)
theorem deepK_eq {β : Type} (c : Chunk) (k : Chunk → β) : deepK c k = k c := by cases c <;> simp only [deepK, CV.listK_eq, natK_eq, valsK_eq]
theorem ndT_get (v : Option Chunk) (l r : Tr Chunk) (p : Pt) : Tr.getP p (ndT v l r) = Tr.getP p (.nd v l r) := by
  unfold ndT
  split
  · cases p <;> simp only [Tr.getP_lf] <;> first | rfl | (symm; exact Tr.getP_lf _)
  · rfl
theorem oldT_nd (n0 : Nat) (s : List Nat) (v : Option Chunk) (l r : Tr Chunk) (a b : Nat) (k : Option (Tr Chunk) → List Fin) : oldT n0 s (.nd v l r) a b k = oldT n0 s l (2 * a) (a + b) fun l => oldT n0 s r (2 * a) (2 * a + b) fun r => oldN n0 b s v k l r := rfl
theorem oldT_ex (n0 : Nat) (s : List Nat) : ∀ (t : Tr Chunk) (a b : Nat) (k : Option (Tr Chunk) → List Fin), ∃ o, oldT n0 s t a b k = k o ∧ ∀ t', o = some t' → ∀ p c2, Tr.getP p t' = some c2 → ∃ c, Tr.getP p t = some c ∧ a * p.num + b < n0 ∧ Ch n0 s c c2
  | .lf, a, b, k => ⟨some .lf, rfl, fun t' h p c hp => by cases h; rw [Tr.getP_lf] at hp; cases hp⟩
  | .nd v l r, a, b, k => by
    rw [oldT_nd]
    obtain ⟨ol, h1, h2⟩ := oldT_ex n0 s l (2 * a) (a + b) (fun l => oldT n0 s r (2 * a) (2 * a + b) fun r => oldN n0 b s v k l r)
    rw [h1]
    obtain ⟨or, h3, h4⟩ := oldT_ex n0 s r (2 * a) (2 * a + b) (fun r => oldN n0 b s v k ol r)
    rw [h3]
    have sub : ∀ l' r', ol = some l' → or = some r' → ∀ (x : Option Chunk), (∀ c2, x = some c2 → ∃ c, v = some c ∧ b < n0 ∧ Ch n0 s c c2) → ∀ p c2, Tr.getP p (.nd x l' r') = some c2 → ∃ c, Tr.getP p (.nd v l r) = some c ∧ a * p.num + b < n0 ∧ Ch n0 s c c2 := by
      intro l' r' hl hr x hx p c2 hp
      cases p with
      | z =>
        have hp : x = some c2 := hp
        obtain ⟨c, g1, g2, g3⟩ := hx c2 hp
        exact ⟨c, g1, by simpa [Pt.num] using g2, g3⟩
      | l p =>
        obtain ⟨c, g1, g2, g3⟩ := h2 l' hl p c2 hp
        refine ⟨c, g1, ?_, g3⟩
        have : a * (2 * p.num + 1) + b = 2 * a * p.num + (a + b) := by
          rw [Nat.mul_add, Nat.mul_one, ← Nat.mul_assoc, Nat.mul_comm a 2, Nat.add_assoc]
        show a * (2 * p.num + 1) + b < n0
        rw [this]; exact g2
      | r p =>
        obtain ⟨c, g1, g2, g3⟩ := h4 r' hr p c2 hp
        refine ⟨c, g1, ?_, g3⟩
        have : a * (2 * p.num + 2) + b = 2 * a * p.num + (2 * a + b) := by
          rw [Nat.mul_add, ← Nat.mul_assoc, Nat.mul_comm a 2, Nat.add_assoc]
        show a * (2 * p.num + 2) + b < n0
        rw [this]; exact g2
    cases ol with
    | none => exact ⟨none, rfl, fun t' h => by cases h⟩
    | some l' =>
      cases or with
      | none => exact ⟨none, rfl, fun t' h => by cases h⟩
      | some r' =>
        have gone : ∀ (o : Option (Tr Chunk)), o = some (ndT none l' r') → ∀ t', o = some t' → ∀ p c2, Tr.getP p t' = some c2 → ∃ c, Tr.getP p (.nd v l r) = some c ∧ a * p.num + b < n0 ∧ Ch n0 s c c2 := by
          intro o ho t' h p c2 hp
          rw [ho] at h
          injection h with h
          subst h
          rw [ndT_get] at hp
          exact sub l' r' rfl rfl none (fun c h => by cases h) p c2 hp
        cases v with
        | none => exact ⟨some (ndT none l' r'), rfl, gone _ rfl⟩
        | some c0 =>
          show ∃ o, (bif Nat.blt b n0 then (bif allLt n0 (hsC c0) then k (some (.nd (some c0) l' r')) else bif allIn n0 s (hsC c0) then deepK (rnC n0 s c0) fun c => k (some (.nd (some c) l' r')) else k none) else k (some (ndT none l' r'))) = k o ∧ _
          cases hlt : Nat.blt b n0 with
          | false => exact ⟨some (ndT none l' r'), rfl, gone _ rfl⟩
          | true =>
            rw [Nat.blt_eq] at hlt
            cases ha : allLt n0 (hsC c0) with
            | true => exact ⟨some (.nd (some c0) l' r'), rfl, fun t' h p c2 hp => by cases h; exact sub l' r' rfl rfl (some c0) (fun c2 h => by cases h; exact ⟨c0, rfl, hlt, .inl ⟨rfl, ha⟩⟩) p c2 hp⟩
            | false =>
              cases hi : allIn n0 s (hsC c0) with
              | false => exact ⟨none, rfl, fun t' h => by cases h⟩
              | true => exact ⟨some (.nd (some (rnC n0 s c0)) l' r'), by simp only [cond_true, cond_false, deepK_eq], fun t' h p c2 hp => by cases h; exact sub l' r' rfl rfl (some (rnC n0 s c0)) (fun c2 h => by cases h; exact ⟨c0, rfl, hlt, .inr ⟨rfl, hi⟩⟩) p c2 hp⟩
theorem newT_ex (n0 : Nat) (s : List Nat) (H : CH) : ∀ (l : List Nat) (i : Nat) (t : Tr Chunk) (k : Option (Tr Chunk) → List Fin), ∃ o, newT n0 s H l i t k = k o ∧ ∀ t', o = some t' → ∀ j c2, t'.get j = some c2 → t.get j = some c2 ∨ ∃ h0 c, i ≤ j ∧ l[j - i]? = some h0 ∧ H.get h0 = some c ∧ Ch n0 s c c2
  | [], i, t, k => ⟨some t, rfl, fun t' h j c2 hj => by cases h; exact .inl hj⟩
  | h :: l, i, t, k => by
    have e : newT n0 s H (h :: l) i t k = (match H.get h with
      | none => natK (i + 1) fun i => newT n0 s H l i t k
      | some c => bif allIn n0 s (hsC c) then deepK (rnC n0 s c) fun c => t.setK i (some c) fun t => natK (i + 1) fun i => newT n0 s H l i t k else k none) := rfl
    rw [e]
    have more : ∀ {j : Nat} {h0 : Nat}, i + 1 ≤ j → l[j - (i + 1)]? = some h0 → (h :: l)[j - i]? = some h0 := fun {j h0} hj hl => by
      have : j - i = (j - (i + 1)) + 1 := by omega
      rw [this]
      simpa using hl
    cases hg : H.get h with
    | none =>
      simp only [natK_eq]
      obtain ⟨o, h1, h2⟩ := newT_ex n0 s H l (i + 1) t k
      refine ⟨o, h1, fun t' ht j c2 hj => (h2 t' ht j c2 hj).imp id ?_⟩
      rintro ⟨h0, c, g1, g2, g3⟩
      exact ⟨h0, c, by omega, more g1 g2, g3⟩
    | some c =>
      simp only
      cases ha : allIn n0 s (hsC c) with
      | false => exact ⟨none, rfl, fun t' h => by cases h⟩
      | true =>
        simp only [cond_true, deepK_eq, Tr.setK_eq, natK_eq]
        obtain ⟨o, h1, h2⟩ := newT_ex n0 s H l (i + 1) (t.set i (some (rnC n0 s c))) k
        refine ⟨o, h1, fun t' ht j c2 hj => ?_⟩
        rcases h2 t' ht j c2 hj with h3 | ⟨h0, c', g1, g2, g3⟩
        · rw [Tr.get_set] at h3
          split at h3
          · rename_i e
            subst e
            injection h3 with h3
            subst h3
            exact .inr ⟨h, c, Nat.le_refl _, by simp, hg, .inr ⟨rfl, ha⟩⟩
          · exact .inl h3
        · exact .inr ⟨h0, c', by omega, more g1 g2, g3⟩
theorem gcF_ex (n0 : Nat) (v : CV) (H : CH) (k : Option (CV × CH) → List Fin) : ∃ o, gcF n0 v H k = k o ∧ ∀ v2 H2, o = some (v2, H2) → ∃ s, Cut n0 s v v2 H H2 := by
  unfold gcF
  rw [natsK_eq]
  obtain ⟨s1, h1⟩ := rootsT_ex n0 (fun _ => []) H.t 1 0 (newH n0 (hsF 8 v) []) (fun s => reachF n0 H 100000 s s (gcS n0 v H k))
  rw [h1]
  obtain ⟨s, h2⟩ := reachF_ex n0 H 100000 s1 s1 (gcS n0 v H k)
  rw [h2]
  unfold gcS
  cases hb : (ndB n0 s && allIn n0 s (hsF 8 v) && Nat.blt n0 1000000000000 && Nat.ble (len gmaps) n0) with
  | false => exact ⟨none, rfl, fun v2 H2 h => by cases h⟩
  | true =>
    simp only [Bool.and_eq_true, Nat.blt_eq, Nat.ble_eq, len_eq] at hb
    simp only [cond_true]
    obtain ⟨o, h3, h4⟩ := oldT_ex n0 s H.t 1 0 (gcO n0 s v H k)
    rw [h3]
    cases o with
    | none => exact ⟨none, rfl, fun v2 H2 h => by cases h⟩
    | some t' =>
      obtain ⟨o2, h5, h6⟩ := newT_ex n0 s H s n0 t' (gcN n0 s v k)
      have h5 : gcO n0 s v H k (some t') = gcN n0 s v k o2 := h5
      rw [h5]
      cases o2 with
      | none => exact ⟨none, rfl, fun v2 H2 h => by cases h⟩
      | some t2 =>
        refine ⟨some (rnF n0 s 8 v, ⟨n0 + s.length, t2⟩), by simp only [gcN, natK_eq, CV.fK_eq, len_eq], fun v2 H2 h => ?_⟩
        injection h with h
        injection h with e1 e2
        subst e1 e2
        refine ⟨s, rfl, hb.1.1.1, hb.1.2, hb.2, hb.1.1.2, rfl, fun j c2 hc => ?_⟩
        have hc : t2.get j = some c2 := hc
        rcases h6 t2 rfl j c2 hc with h7 | ⟨h0, c, g1, g2, g3, g4⟩
        · obtain ⟨c, g1, g2, g3⟩ := h4 t' rfl (path j) c2 h7
          have : (path j).num = j := pathF_num _ _ (Nat.lt_succ_self j)
          rw [this] at g2
          exact ⟨j, c, if_pos (by omega), g1, g3⟩
        · exact ⟨h0, c, by unfold src; rw [if_neg (by omega)]; exact g2, g3, g4⟩
/-- What stands for an answer. -/
inductive Stands (n0 : Nat) : Fin → Fin → Prop where
  | same (x : Fin) : Stands n0 x x
  | ret {s : List Nat} {v v2 : CV} {H H2 : CH} (h : Cut n0 s v v2 H H2) : Stands n0 (.ret v H) (.ret v2 H2)
  | pan {s : List Nat} {v v2 : CV} {H H2 : CH} (h : Cut n0 s v v2 H H2) : Stands n0 (.pan v H) (.pan v2 H2)
theorem stripF_ex (n0 : Nat) (x : Fin) (k : Fin → List Fin) : ∃ y, stripF n0 x k = k y ∧ Stands n0 x y := by
  cases x with
  | ret v H =>
    obtain ⟨o, h1, h2⟩ := gcF_ex n0 v H (stripK (.ret v H) .ret k)
    cases o with
    | none => exact ⟨_, h1, .same _⟩
    | some vH =>
      obtain ⟨v2, H2⟩ := vH
      obtain ⟨s, hc⟩ := h2 v2 H2 rfl
      exact ⟨_, h1, .ret hc⟩
  | pan v H =>
    obtain ⟨o, h1, h2⟩ := gcF_ex n0 v H (stripK (.pan v H) .pan k)
    cases o with
    | none => exact ⟨_, h1, .same _⟩
    | some vH =>
      obtain ⟨v2, H2⟩ := vH
      obtain ⟨s, hc⟩ := h2 v2 H2 rfl
      exact ⟨_, h1, .pan hc⟩
theorem stripL_ex (n0 : Nat) : ∀ (l : List Fin), ∀ x ∈ l, ∃ y ∈ stripL n0 l, Stands n0 x y
  | [], x, h => by cases h
  | z :: l, x, h => by
    obtain ⟨y, h1, h2⟩ := stripF_ex n0 z (fun y => y :: stripL n0 l)
    have e : stripL n0 (z :: l) = y :: stripL n0 l := h1
    rw [e]
    rcases List.mem_cons.1 h with rfl | h
    · exact ⟨y, List.mem_cons_self .., h2⟩
    · obtain ⟨y', h3, h4⟩ := stripL_ex n0 l x h
      exact ⟨y', List.mem_cons_of_mem _ h3, h4⟩
theorem dedup_ex {b : Bool} {n0 : Nat} {a : Ans} {l : List Fin} (h : dedup b n0 a = .ok l) : ∃ l0, a = .ok l0 ∧ ∀ x ∈ l0, ∃ y ∈ l, Stands n0 x y := by
  unfold dedup at h
  split at h
  · cases h
  · injection h with h
    cases b with
    | false =>
      simp only [cond_false] at h
      subst h
      exact ⟨_, rfl, fun x hx => ⟨x, hx, .same x⟩⟩
    | true =>
      simp only [cond_true] at h
      subst h
      exact ⟨_, rfl, fun x hx => stripL_ex n0 _ x hx⟩
  · injection h with h
    subst h
    refine ⟨_, rfl, fun x hx => ?_⟩
    obtain ⟨y, h1, h2⟩ := stripL_ex n0 _ x hx
    exact ⟨y, mem_dedupL h1, h2⟩
theorem ren_le {ρ ρ' : Rho} {n0 : Nat} {s : List Nat} (h : Rho.le ρ ρ') (hf : ∀ j, n0 ≤ j → ρ j = none) : Rho.le ρ (ρ'.ren n0 s) := fun j p hj => by
  have hlt : j < n0 := by
    rcases Nat.lt_or_ge j n0 with h1 | h1
    · exact h1
    · rw [hf j h1] at hj; cases hj
  rw [ren_lt hlt]
  exact h j p hj
theorem Got.dedup {W : World} {ρ : Rho} {n0 : Nat} {l l0 : List Fin} (hf : ∀ j, n0 ≤ j → ρ j = none) (hs : ∀ x ∈ l0, ∃ y ∈ l, Stands n0 x y) : ∀ (en : Ending) (w : World), Got W ρ l0 en w → Got W ρ l en w
  | .returned u, w, ⟨v, H, ρ', h1, h2, h3, h4⟩ => by
    obtain ⟨y, hy, hst⟩ := hs _ h1
    cases hst with
    | same => exact ⟨v, H, ρ', hy, h2, h3, h4⟩
    | ret hc => exact ⟨_, _, ρ'.ren _ _, hy, ren_le h2 hf, h3.ren hc, by rw [hc.val2]; exact R_ren hc.nd hc.hi 8 v u hc.val h4⟩
  | .panicked ch, w, ⟨u, v, H, ρ', h0, h1, h2, h3, h4⟩ => by
    obtain ⟨y, hy, hst⟩ := hs _ h1
    cases hst with
    | same => exact ⟨u, v, H, ρ', h0, hy, h2, h3, h4⟩
    | pan hc => exact ⟨u, _, _, ρ'.ren _ _, h0, hy, ren_le h2 hf, h3.ren hc, by rw [hc.val2]; exact R_ren hc.nd hc.hi 8 v u hc.val h4⟩
  | .outgrown, _, h => h
end Go.Proofs.YtjhaikcokbmdbaaGreatDoor.Cx
