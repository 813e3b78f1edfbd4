/-
  Closed runs: what is thrown away at a return.
-/
import Derived.Test.YtnopfndpnlomjaaDoorCxZa
namespace Go.Proofs.YtnopfndpnlomjaaDoor.Cx
open Go.RowKit Go.Proofs.YtnopfndpnlomjaaDoor.Ax

/-! The same answers. -/
theorem ckeq_spec {a b : CK} (h : ckeq a b = true) : a = b := by
  cases a <;> cases b <;> simp only [ckeq] at h <;> try cases h
  · rw [lbeq_eq] at h; rw [of_decide_eq_true h]
  · rw [Bool.and_eq_true] at h; have h2 := h.2; rw [eqI_eq] at h2; rw [eqK_spec h.1, of_decide_eq_true h2]
theorem ckeqL_spec : ∀ {a b : List CK}, ckeqL a b = true → a = b
  | [], [], _ => rfl
  | [], _ :: _, h => by cases h
  | _ :: _, [], h => by cases h
  | x :: xs, y :: ys, h => by
    have h : (ckeq x y && ckeqL xs ys) = true := h
    rw [Bool.and_eq_true] at h
    rw [ckeq_spec h.1, ckeqL_spec h.2]
theorem meqL_spec : ∀ {a b : List (CK × CV)}, meqL a b = true → a = b
  | [], [], _ => rfl
  | [], _ :: _, h => by cases h
  | _ :: _, [], h => by cases h
  | (k, x) :: xs, (j, y) :: ys, h => by
    have h : (ckeq k j && ceq x y && meqL xs ys) = true := h
    simp only [Bool.and_eq_true] at h
    rw [ckeq_spec h.1.1, ceq_spec h.1.2, meqL_spec h.2]
theorem cheq_spec {a b : Chunk} (h : cheq a b = true) : a = b := by
  unfold cheq at h
  split at h
  · have := ceqF_spec _ _ _ h; injection this with this; rw [this]
  · simp only [Bool.and_eq_true] at h
    rw [eqKK_spec h.1.1, Nat.eq_of_beq_eq_true h.1.2, meqL_spec h.2]
  · simp only [Bool.and_eq_true] at h
    obtain ⟨⟨⟨h1, h2⟩, h3⟩, h4⟩ := h
    rw [Nat.eq_of_beq_eq_true h1, Nat.eq_of_beq_eq_true h2, ckeqL_spec h3]
    split at h4
    · rfl
    · rw [ckeq_spec h4]
    · cases h4
  · rw [Bool.and_eq_true] at h
    have h1 := h.1
    rw [lbeq_eq] at h1
    rw [of_decide_eq_true h1, Nat.eq_of_beq_eq_true h.2]
  · cases h
theorem treq_nd (v w : Option Chunk) (l r l' r' : Tr Chunk) : treq (.nd v l r) (.nd w l' r') = ((match v, w with
      | none, none => true
      | some x, some y => cheq x y
      | _, _ => false) && treq l l' && treq r r') := rfl
theorem treq_spec : ∀ {a b : Tr Chunk}, treq a b = true → a = b
  | .lf, .lf, _ => rfl
  | .lf, .nd .., h => by cases h
  | .nd .., .lf, h => by cases h
  | .nd v l r, .nd w l' r', h => by
    rw [treq_nd] at h
    simp only [Bool.and_eq_true] at h
    obtain ⟨⟨h1, h2⟩, h3⟩ := h
    rw [treq_spec h2, treq_spec h3]
    split at h1
    · rfl
    · rw [cheq_spec h1]
    · cases h1
theorem heq_spec {a b : CH} (h : heq a b = true) : a = b := by
  unfold heq at h
  rw [Bool.and_eq_true] at h
  obtain ⟨n, t⟩ := a
  obtain ⟨n', t'⟩ := b
  have h1 : n = n' := Nat.eq_of_beq_eq_true h.1
  have h2 : t = t' := treq_spec h.2
  rw [h1, h2]
theorem feq_spec {a b : Fin} (h : feq a b = true) : a = b := by
  unfold feq at h
  split at h
  · rw [Bool.and_eq_true] at h; rw [ceq_spec h.1, heq_spec h.2]
  · rw [Bool.and_eq_true] at h; rw [ceq_spec h.1, heq_spec h.2]
  · cases h
theorem anyF_mem {x : Fin} : ∀ {l : List Fin}, anyF x l = true → x ∈ l
  | [], h => by cases h
  | y :: ys, h => by
    have h : (bif feq x y then true else anyF x ys) = true := h
    cases hb : feq x y with
    | true => rw [feq_spec hb]; exact List.mem_cons_self ..
    | false => rw [hb] at h; exact List.mem_cons_of_mem _ (anyF_mem h)
theorem dedupL_cons (y : Fin) (ys : List Fin) : dedupL (y :: ys) = match dedupL ys with
  | [] => [y]
  | r => bif anyF y r then r else y :: r := rfl
theorem mem_dedupL {x : Fin} : ∀ {l : List Fin}, x ∈ l → x ∈ dedupL l
  | [], h => by cases h
  | y :: ys, h => by
    have ih : x ∈ ys → x ∈ dedupL ys := fun h => mem_dedupL h
    rw [dedupL_cons]
    generalize dedupL ys = r at ih
    cases r with
    | nil =>
      rcases List.mem_cons.1 h with rfl | h
      · exact List.mem_cons_self ..
      · cases ih h
    | cons z zs =>
      show x ∈ (bif anyF y (z :: zs) then z :: zs else y :: z :: zs)
      cases hb : anyF y (z :: zs) with
      | true =>
        rcases List.mem_cons.1 h with rfl | h
        · exact anyF_mem hb
        · exact ih h
      | false =>
        rcases List.mem_cons.1 h with rfl | h
        · exact List.mem_cons_self ..
        · exact List.mem_cons_of_mem _ (ih h)

/-! Memory that is kept. -/
theorem allLt_cat {n : Nat} : ∀ {a b : List Nat}, allLt n (catL a b) = true → allLt n a = true ∧ allLt n b = true
  | [], _, h => ⟨rfl, h⟩
  | x :: xs, b, h => by
    have h : (bif Nat.blt x n then allLt n (catL xs b) else false) = true := h
    cases hb : Nat.blt x n with
    | false => rw [hb] at h; cases h
    | true =>
      rw [hb] at h
      obtain ⟨h1, h2⟩ := allLt_cat h
      refine ⟨?_, h2⟩
      show (bif Nat.blt x n then allLt n xs else false) = true
      rw [hb]
      exact h1
theorem allLt_cons {n x : Nat} {xs : List Nat} (h : allLt n (x :: xs) = true) : x < n ∧ allLt n xs = true := by
  have h : (bif Nat.blt x n then allLt n xs else false) = true := h
  cases hb : Nat.blt x n with
  | false => rw [hb] at h; cases h
  | true => rw [hb] at h; exact ⟨by rw [← Nat.blt_eq]; exact hb, h⟩
def Rho.cut (ρ : Rho) (n : Nat) : Rho := fun j => if j < n then ρ j else none
theorem cut_some {ρ : Rho} {n j : Nat} {p : Nat × Nat} (h : ρ.cut n j = some p) : ρ j = some p := by
  unfold Rho.cut at h
  split at h
  · exact h
  · cases h
theorem cut_lt {ρ : Rho} {n j : Nat} (h : j < n) : ρ.cut n j = ρ j := if_pos h
section
variable {ρ : Rho} {n2 : Nat}
noncomputable def hsLn (n : Nat) (cs : List CV) : List Nat := List.rec (motive := fun _ => List Nat) [] (fun c _ r => catL (hsF n c) r) cs
theorem R_cut (hn : n2 ≤ 1000000000000) : ∀ (n : Nat) (x : CV) (u : Value), allLt n2 (hsF n x) = true → x.R ρ u → x.R (ρ.cut n2) u
  | 0, _, _, h, _ => by
    have := (allLt_cons (n := n2) (x := 1000000000000) (xs := []) h).1
    omega
  | n + 1, x, u, h, hx => by
    have lists : ∀ (cs : List CV) (vs : List Value), allLt n2 (hsLn n cs) = true → CV.Rs ρ cs vs → CV.Rs (ρ.cut n2) cs vs := by
      intro cs
      induction cs with
      | nil => intro vs _ h; simpa only [CV.Rs] using h
      | cons c cs ih =>
        intro vs h hr
        simp only [CV.Rs] at hr ⊢
        obtain ⟨y, ys, rfl, r, rs⟩ := hr
        obtain ⟨h1, h2⟩ := allLt_cat (a := hsF n c) (b := hsLn n cs) h
        exact ⟨y, ys, rfl, R_cut hn n c y h1 r, ih ys h2 rs⟩
    cases x with
    | v y => simpa only [CV.R] using hx
    | int k m => simpa only [CV.R] using hx
    | bool b => simpa only [CV.R] using hx
    | str l => simpa only [CV.R] using hx
    | gp g o => simpa only [CV.R] using hx
    | junk => simp only [CV.R]
    | ptr hh o =>
      have h1 := (allLt_cons (n := n2) (x := hh) (xs := []) h).1
      simp only [CV.R] at hx ⊢
      rw [cut_lt h1]; exact hx
    | row hh s o l c =>
      have h1 := (allLt_cons (n := n2) (x := hh) (xs := []) h).1
      simp only [CV.R] at hx ⊢
      rw [cut_lt h1]; exact hx
    | mp hh =>
      have h1 := (allLt_cons (n := n2) (x := hh) (xs := []) h).1
      simp only [CV.R] at hx ⊢
      rw [cut_lt h1]; exact hx
    | yld hh =>
      have h1 := (allLt_cons (n := n2) (x := hh) (xs := []) h).1
      simp only [CV.R] at hx ⊢
      rw [cut_lt h1]; exact hx
    | agg cs =>
      simp only [CV.R] at hx ⊢
      obtain ⟨vs, e, r⟩ := hx
      exact ⟨vs, e, lists cs vs h r⟩
    | tup cs =>
      simp only [CV.R] at hx ⊢
      obtain ⟨vs, e, r⟩ := hx
      exact ⟨vs, e, lists cs vs h r⟩
    | ifc t y =>
      simp only [CV.R] at hx ⊢
      obtain ⟨z, e, r⟩ := hx
      exact ⟨z, e, R_cut hn n y z h r⟩
    | fnc f a c =>
      simp only [CV.R] at hx ⊢
      obtain ⟨as, cs, e, r, s⟩ := hx
      obtain ⟨h1, h2⟩ := allLt_cat (a := hsLn n a) (b := hsLn n c) h
      exact ⟨as, cs, e, lists a as h1 r, lists c cs h2 s⟩
theorem Rs_cut (hn : n2 ≤ 1000000000000) : ∀ (cs : List CV) (vs : List Value), allLt n2 (hsL cs) = true → CV.Rs ρ cs vs → CV.Rs (ρ.cut n2) cs vs
  | [], _, _, h => by simpa only [CV.Rs] using h
  | c :: cs, _, h, hr => by
    simp only [CV.Rs] at hr ⊢
    obtain ⟨y, ys, rfl, r, rs⟩ := hr
    obtain ⟨h1, h2⟩ := allLt_cat (a := hsF 8 c) (b := hsL cs) h
    exact ⟨y, ys, rfl, R_cut hn 8 c y h1 r, Rs_cut hn cs ys h2 rs⟩
theorem ZipR.mem_mono {X : Type} {R R' : X → Value → Prop} : ∀ {l : List MapEntry} {m : List (MK × X)}, (∀ p ∈ m, ∀ v, R p.2 v → R' p.2 v) → ZipR R l m → ZipR R' l m
  | [], _, _, h => h
  | e :: es, m, hm, ⟨p, ps, e1, e2, e3, e4⟩ => by
    subst e1
    exact ⟨p, ps, rfl, e2, hm p (List.mem_cons_self ..) _ e3, ZipR.mem_mono (fun q hq => hm q (List.mem_cons_of_mem _ hq)) e4⟩
noncomputable def hsTr (t : Tr CV) : List Nat := Tr.rec (motive := fun _ => List Nat) [] (fun v _ _ l r => catL (match v with
  | some v => hsF 8 v
  | none => []) (catL l r)) t
def hsO (x : Option CV) (k : CV → List Nat) : List Nat := match x with
  | some v => k v
  | none => []
theorem hsTr_nd (x : Option CV) (l r : Tr CV) : hsTr (.nd x l r) = catL (hsO x (hsF 8)) (catL (hsTr l) (hsTr r)) := by cases x <;> rfl
theorem hsTr_get : ∀ (p : Pt) (t : Tr CV) (v : CV), allLt n2 (hsTr t) = true → Tr.getP p t = some v → allLt n2 (hsF 8 v) = true
  | p, .lf, v, _, h => by rw [Tr.getP_lf] at h; cases h
  | p, .nd x l r, v, ha, h => by
    rw [hsTr_nd] at ha
    obtain ⟨h1, h2⟩ := allLt_cat ha
    obtain ⟨h3, h4⟩ := allLt_cat (a := hsTr l) (b := hsTr r) h2
    cases p with
    | z =>
      have h : x = some v := h
      subst h
      exact h1
    | l p => exact hsTr_get p l v h3 h
    | r p => exact hsTr_get p r v h4 h
theorem Chunk.R_cut (hn : n2 ≤ 1000000000000) {p : Nat × Nat} {w : World} {c : Chunk} (ha : allLt n2 (hsC c) = true) (h : c.R ρ p w) : c.R (ρ.cut n2) p w := by
  cases c with
  | cells cs => obtain ⟨arr, e, fr, vs, h1, h2, h3, h4, h5⟩ := h; exact ⟨arr, e, fr, vs, h1, h2, h3, Rs_cut hn cs vs ha h4, h5⟩
  | map kk ver m =>
    obtain ⟨es, clock, h1, h2, h3⟩ := h
    refine ⟨es, clock, h1, ⟨h2.kind, ?_, h2.keys, h2.born, h2.clock⟩, h3⟩
    obtain ⟨l, hp, hz⟩ := h2.zip
    refine ⟨l, hp, ZipR.mem_mono (fun q hq v hv => ?_) hz⟩
    obtain ⟨q', hq', rfl⟩ := List.mem_map.1 hq
    refine Cx.R_cut hn 8 q'.2 v ?_ hv
    have key : ∀ m : List (CK × CV), allLt n2 (List.rec (motive := fun _ => List Nat) [] (fun p _ r => catL (hsF 8 p.2) r) m : List Nat) = true → ∀ q ∈ m, allLt n2 (hsF 8 q.2) = true := by
      intro m
      induction m with
      | nil => intro _ q hq; cases hq
      | cons x xs ih =>
        intro h q hq
        obtain ⟨h1, h2⟩ := allLt_cat (a := hsF 8 x.2) (b := (List.rec (motive := fun _ => List Nat) [] (fun p _ r => catL (hsF 8 p.2) r) xs : List Nat)) h
        rcases List.mem_cons.1 hq with rfl | hq
        · exact h1
        · exact ih h2 q hq
    exact key m ha q' hq'
  | miter hm ver left last =>
    obtain ⟨bm, mm, since, seen, st, h1, h2, h3⟩ := h
    exact ⟨bm, mm, since, seen, st, (cut_lt (allLt_cons ha).1).trans h1, h2, h3⟩
  | siter l pos => exact h
  | loop st pend fid N tmps params asg body dh =>
    obtain ⟨fn, tv, bd, md, h1, h2, h3, h4⟩ := h
    obtain ⟨a1, a2⟩ := allLt_cons (x := dh) (xs := hsTr tmps) ha
    exact ⟨fn, tv, bd, md, (cut_lt a1).trans h1, h2, h3, fun t v ht => ⟨(h4 t v ht).1, Cx.R_cut hn 8 v _ (hsTr_get _ _ _ a2 ht) (h4 t v ht).2⟩⟩
  | dfr => exact h
/-- Less memory. -/
structure Cut (n0 n2 : Nat) (v : CV) (H H2 : CH) : Prop where
  next : H2.next = n2
  lo : n0 ≤ n2
  hi : n2 ≤ 1000000000000
  val : allLt n2 (hsF 8 v) = true
  get : ∀ h c, H2.get h = some c → H.get h = some c ∧ h < n2 ∧ allLt n2 (hsC c) = true
theorem SR.cut {W : World} {H H2 : CH} {w : World} {v : CV} {n0 : Nat} (hS : SR W ρ H w) (hC : Cut n0 n2 v H H2) : SR W (ρ.cut n2) H2 w := by
  refine ⟨hS.base, fun h c hc => ?_, fun h hh => ?_, fun h c p hc hp => hS.new h c p (hC.get h c hc).1 (cut_some hp), fun h h' c c' p p' h1 h2 h3 h4 h5 => hS.apart h h' c c' p p' (hC.get _ _ h1).1 (hC.get _ _ h2).1 h3 (cut_some h4) (cut_some h5),
    fun h p hm q ver left last kk m bm since seen st es clock v h1 h2 h3 h4 => hS.iter h p hm q ver left last kk m bm since seen st es clock v (hC.get _ _ h1).1 (hC.get _ _ h2).1 (cut_some h3) (cut_some h4)⟩
  · obtain ⟨g1, g2, g3⟩ := hC.get h c hc
    obtain ⟨p, h1, h2⟩ := hS.rel h c g1
    exact ⟨p, (cut_lt g2).trans h1, Chunk.R_cut hC.hi g3 h2⟩
  · rw [hC.next] at hh
    exact if_neg (by omega)
end
theorem rootsT_ex (n0 : Nat) (_ : List Nat → List Fin) : ∀ (t : Tr Chunk) (a b : Nat) (s : List Nat) (k : List Nat → List Fin), ∃ s', rootsT n0 t a b s k = k s'
  | .lf, _, _, s, k => ⟨s, rfl⟩
  | .nd v l r, a, b, s, k => by
    have e : rootsT n0 (.nd v l r) a b s k = (match v with
      | none => fun k => k s
      | some c => fun k => bif Nat.blt b n0 then natsK (newH n0 (hsC c) s) k else k s : (List Nat → List Fin) → List Fin) fun s => rootsT n0 l (2 * a) (a + b) s fun s => rootsT n0 r (2 * a) (2 * a + b) s k := rfl
    rw [e]
    have two : ∀ s, ∃ s', (rootsT n0 l (2 * a) (a + b) s fun s => rootsT n0 r (2 * a) (2 * a + b) s k) = k s' := fun s => by
      obtain ⟨s1, h1⟩ := rootsT_ex n0 k l (2 * a) (a + b) s (fun s => rootsT n0 r (2 * a) (2 * a + b) s k)
      obtain ⟨s2, h2⟩ := rootsT_ex n0 k r (2 * a) (2 * a + b) s1 k
      exact ⟨s2, h1.trans h2⟩
    cases v with
    | none => exact two s
    | some c =>
      simp only [natsK_eq]
      cases Nat.blt b n0 with
      | true => exact two _
      | false => exact two s
theorem reachF_ex (n0 : Nat) (H : CH) : ∀ (n : Nat) (todo s : List Nat) (k : List Nat → List Fin), ∃ s', reachF n0 H n todo s k = k s'
  | 0, _, s, _ => ⟨s, rfl⟩
  | n + 1, todo, s, k => by
    cases todo with
    | nil => exact ⟨s, rfl⟩
    | cons h todo =>
      have e : reachF n0 H (n + 1) (h :: todo) s k = (match H.get h with
        | none => reachF n0 H n todo s k
        | some c => natsK (newH n0 (hsC c) s) fun s' => natsK (catL (takeL s' (len s' - len s)) todo) fun todo => reachF n0 H n todo s' k) := rfl
      rw [e]
      split
      · exact reachF_ex n0 H n todo s k
      · rw [natsK_eq, natsK_eq]; exact reachF_ex n0 H n _ _ k
/-- What is made of a node. -/
noncomputable def keepN (n0 n2 b : Nat) (s : List Nat) (v : Option Chunk) (k : Option (Tr Chunk) → List Fin) (l r : Option (Tr Chunk)) : List Fin := match l, r with
  | some l, some r => (match v with
    | none => k (some (.nd none l r))
    | some c => bif Nat.blt b n0 || memN b s then (bif allLt n2 (hsC c) && Nat.blt b n2 then k (some (.nd (some c) l r)) else k none) else k (some (.nd none l r)))
  | _, _ => k none
theorem keepT_nd (n0 n2 : Nat) (s : List Nat) (v : Option Chunk) (l r : Tr Chunk) (a b : Nat) (k : Option (Tr Chunk) → List Fin) : keepT n0 n2 s (.nd v l r) a b k = keepT n0 n2 s l (2 * a) (a + b) fun l => keepT n0 n2 s r (2 * a) (2 * a + b) fun r => keepN n0 n2 b s v k l r := rfl
theorem keepT_ex (n0 n2 : Nat) (s : List Nat) : ∀ (t : Tr Chunk) (a b : Nat) (k : Option (Tr Chunk) → List Fin), ∃ o, keepT n0 n2 s t a b k = k o ∧ ∀ t', o = some t' → ∀ p c, Tr.getP p t' = some c → Tr.getP p t = some c ∧ a * p.num + b < n2 ∧ allLt n2 (hsC c) = true
  | .lf, a, b, k => ⟨some .lf, rfl, fun t' h p c hp => by cases h; rw [Tr.getP_lf] at hp; cases hp⟩
  | .nd v l r, a, b, k => by
    rw [keepT_nd]
    obtain ⟨ol, h1, h2⟩ := keepT_ex n0 n2 s l (2 * a) (a + b) (fun l => keepT n0 n2 s r (2 * a) (2 * a + b) fun r => keepN n0 n2 b s v k l r)
    rw [h1]
    obtain ⟨or, h3, h4⟩ := keepT_ex n0 n2 s r (2 * a) (2 * a + b) (fun r => keepN n0 n2 b s v k ol r)
    rw [h3]
    have sub : ∀ l' r', ol = some l' → or = some r' → ∀ (x : Option Chunk), (∀ c, x = some c → v = some c ∧ b < n2 ∧ allLt n2 (hsC c) = true) → ∀ p c, Tr.getP p (.nd x l' r') = some c → Tr.getP p (.nd v l r) = some c ∧ a * p.num + b < n2 ∧ allLt n2 (hsC c) = true := by
      intro l' r' hl hr x hx p c hp
      cases p with
      | z =>
        have hp : x = some c := hp
        obtain ⟨g1, g2, g3⟩ := hx c hp
        exact ⟨g1, by simpa [Pt.num] using g2, g3⟩
      | l p =>
        obtain ⟨g1, g2, g3⟩ := h2 l' hl p c hp
        refine ⟨g1, ?_, g3⟩
        have : a * (2 * p.num + 1) + b = 2 * a * p.num + (a + b) := by
          rw [Nat.mul_add, Nat.mul_one, ← Nat.mul_assoc, Nat.mul_comm a 2, Nat.add_assoc]
        show a * (2 * p.num + 1) + b < n2
        rw [this]; exact g2
      | r p =>
        obtain ⟨g1, g2, g3⟩ := h4 r' hr p c hp
        refine ⟨g1, ?_, g3⟩
        have : a * (2 * p.num + 2) + b = 2 * a * p.num + (2 * a + b) := by
          rw [Nat.mul_add, ← Nat.mul_assoc, Nat.mul_comm a 2, Nat.add_assoc]
        show a * (2 * p.num + 2) + b < n2
        rw [this]; exact g2
    cases ol with
    | none => exact ⟨none, rfl, fun t' h => by cases h⟩
    | some l' =>
      cases or with
      | none => exact ⟨none, rfl, fun t' h => by cases h⟩
      | some r' =>
        cases v with
        | none => exact ⟨_, rfl, fun t' h p c hp => by cases h; exact sub l' r' rfl rfl none (fun c h => by cases h) p c hp⟩
        | some c0 =>
          show ∃ o, (bif Nat.blt b n0 || memN b s then (bif allLt n2 (hsC c0) && Nat.blt b n2 then k (some (.nd (some c0) l' r')) else k none) else k (some (.nd none l' r'))) = k o ∧ _
          cases (Nat.blt b n0 || memN b s) with
          | false => exact ⟨_, rfl, fun t' h p c hp => by cases h; exact sub l' r' rfl rfl none (fun c h => by cases h) p c hp⟩
          | true =>
            cases hb : (allLt n2 (hsC c0) && Nat.blt b n2) with
            | false => exact ⟨none, rfl, fun t' h => by cases h⟩
            | true =>
              rw [Bool.and_eq_true] at hb
              exact ⟨_, rfl, fun t' h p c hp => by cases h; exact sub l' r' rfl rfl (some c0) (fun c h => by cases h; exact ⟨rfl, by rw [← Nat.blt_eq]; exact hb.2, hb.1⟩) p c hp⟩
theorem gcF_ex (n0 : Nat) (v : CV) (H : CH) (k : Option CH → List Fin) : ∃ o, gcF n0 v H k = k o ∧ ∀ H2, o = some H2 → ∃ n2, Cut n0 n2 v H H2 := by
  unfold gcF
  rw [natsK_eq]
  obtain ⟨s1, h1⟩ := rootsT_ex n0 (fun _ => []) H.t 1 0 (newH n0 (hsF 8 v) []) (fun s => reachF n0 H 1000 s s (gcS n0 v H k))
  rw [h1]
  obtain ⟨s2, h2⟩ := reachF_ex n0 H 1000 s1 s1 (gcS n0 v H k)
  rw [h2]
  unfold gcS
  rw [natK_eq]
  generalize maxN n0 s2 = n2
  cases hb : (allLt n2 (hsF 8 v) && Nat.ble n0 n2 && Nat.ble n2 1000000000000) with
  | false => exact ⟨none, rfl, fun H2 h => by cases h⟩
  | true =>
    simp only [Bool.and_eq_true] at hb
    simp only [cond_true]
    obtain ⟨o, h3, h4⟩ := keepT_ex n0 n2 s2 H.t 1 0 (gcK n2 k)
    rw [h3]
    cases o with
    | none => exact ⟨none, rfl, fun H2 h => by cases h⟩
    | some t' =>
      refine ⟨some ⟨n2, t'⟩, rfl, fun H2 h => ?_⟩
      cases h
      refine ⟨n2, rfl, Nat.le_of_ble_eq_true hb.1.2, Nat.le_of_ble_eq_true hb.2, hb.1.1, fun j c hc => ?_⟩
      obtain ⟨g1, g2, g3⟩ := h4 t' rfl (path j) c hc
      have : (path j).num = j := pathF_num _ _ (Nat.lt_succ_self j)
      rw [this] at g2
      exact ⟨g1, by omega, g3⟩
/-- What stands for an answer. -/
inductive Stands (n0 : Nat) : Fin → Fin → Prop where
  | same (x : Fin) : Stands n0 x x
  | ret {n2 : Nat} {v : CV} {H H2 : CH} (h : Cut n0 n2 v H H2) : Stands n0 (.ret v H) (.ret v H2)
  | pan {n2 : Nat} {v : CV} {H H2 : CH} (h : Cut n0 n2 v H H2) : Stands n0 (.pan v H) (.pan v H2)
theorem stripF_ex (n0 : Nat) (x : Fin) (k : Fin → List Fin) : ∃ y, stripF n0 x k = k y ∧ Stands n0 x y := by
  cases x with
  | ret v H =>
    obtain ⟨o, h1, h2⟩ := gcF_ex n0 v H (stripK H (.ret v) k)
    cases o with
    | none => exact ⟨_, h1, .same _⟩
    | some H2 => obtain ⟨n2, hc⟩ := h2 H2 rfl; exact ⟨_, h1, .ret hc⟩
  | pan v H =>
    obtain ⟨o, h1, h2⟩ := gcF_ex n0 v H (stripK H (.pan v) k)
    cases o with
    | none => exact ⟨_, h1, .same _⟩
    | some H2 => obtain ⟨n2, hc⟩ := h2 H2 rfl; exact ⟨_, h1, .pan hc⟩
theorem stripL_ex (n0 : Nat) : ∀ (l : List Fin), ∀ x ∈ l, ∃ y ∈ stripL n0 l, Stands n0 x y
  | [], x, h => by cases h
  | z :: l, x, h => by
    obtain ⟨y, h1, h2⟩ := stripF_ex n0 z (fun y => y :: stripL n0 l)
    have e : stripL n0 (z :: l) = y :: stripL n0 l := h1
    rw [e]
    rcases List.mem_cons.1 h with rfl | h
    · exact ⟨y, List.mem_cons_self .., h2⟩
    · obtain ⟨y', h3, h4⟩ := stripL_ex n0 l x h
      exact ⟨y', List.mem_cons_of_mem _ h3, h4⟩
theorem dedup_ex {b : Bool} {n0 : Nat} {a : Ans} {l : List Fin} (h : dedup b n0 a = .ok l) : ∃ l0, a = .ok l0 ∧ ∀ x ∈ l0, ∃ y ∈ l, Stands n0 x y := by
  unfold dedup at h
  split at h
  · cases h
  · injection h with h
    cases b with
    | false =>
      simp only [cond_false] at h
      subst h
      exact ⟨_, rfl, fun x hx => ⟨x, hx, .same x⟩⟩
    | true =>
      simp only [cond_true] at h
      subst h
      exact ⟨_, rfl, fun x hx => stripL_ex n0 _ x hx⟩
  · injection h with h
    subst h
    refine ⟨_, rfl, fun x hx => ?_⟩
    obtain ⟨y, h1, h2⟩ := stripL_ex n0 _ x hx
    exact ⟨y, mem_dedupL h1, h2⟩
theorem Got.dedup {W : World} {ρ : Rho} {n0 : Nat} {l l0 : List Fin} (hf : ∀ j, n0 ≤ j → ρ j = none) (hs : ∀ x ∈ l0, ∃ y ∈ l, Stands n0 x y) : ∀ (en : Ending) (w : World), Got W ρ l0 en w → Got W ρ l en w
  | .returned u, w, ⟨v, H, ρ', h1, h2, h3, h4⟩ => by
    obtain ⟨y, hy, hst⟩ := hs _ h1
    cases hst with
    | same => exact ⟨v, H, ρ', hy, h2, h3, h4⟩
    | ret hc => exact ⟨v, _, ρ'.cut _, hy, Rho.cut_le h2 fun j hj => hf j (Nat.le_trans hc.lo hj), h3.cut hc, R_cut hc.hi 8 v u hc.val h4⟩
  | .panicked ch, w, ⟨u, v, H, ρ', h0, h1, h2, h3, h4⟩ => by
    obtain ⟨y, hy, hst⟩ := hs _ h1
    cases hst with
    | same => exact ⟨u, v, H, ρ', h0, hy, h2, h3, h4⟩
    | pan hc => exact ⟨u, v, _, ρ'.cut _, h0, hy, Rho.cut_le h2 fun j hj => hf j (Nat.le_trans hc.lo hj), h3.cut hc, R_cut hc.hi 8 v u hc.val h4⟩
  | .outgrown, _, h => h
end Go.Proofs.YtnopfndpnlomjaaDoor.Cx
