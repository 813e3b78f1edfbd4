/-
  Closed runs: slots; one operation.
-/
import Derived.Test.YtjhaikcokbmdbaaGreatDoorCxR
import Derived.Test.YtjhaikcokbmdbaaGreatDoorCxB
import Derived.RangeFuncLeaves
import Derived.RangeFuncCalls
import Derived.OrdersIn
namespace Go.Proofs.YtjhaikcokbmdbaaGreatDoor.Cx
open Go.RowKit Go.Proofs.YtjhaikcokbmdbaaGreatDoor.Ax

theorem splL_get {α : Type} : ∀ (l : List α) (i : Nat), (splL l).1[i]? = l[2 * i]? ∧ (splL l).2[i]? = l[2 * i + 1]?
  | [], i => by simp [splL]
  | x :: xs, i => by
    have e : splL (x :: xs) = (x :: (splL xs).2, (splL xs).1) := rfl
    rw [e]
    refine ⟨?_, ?_⟩
    · cases i with
      | zero => rfl
      | succ i =>
        have : 2 * (i + 1) = (2 * i + 1) + 1 := by omega
        rw [this]
        simp only [List.getElem?_cons_succ]
        exact (splL_get xs i).2
    · simp only [List.getElem?_cons_succ]
      exact (splL_get xs i).1
theorem splL_len {α : Type} : ∀ l : List α, (splL l).1.length ≤ l.length ∧ (splL l).2.length ≤ l.length
  | [] => ⟨Nat.le_refl _, Nat.le_refl _⟩
  | x :: xs => by
    have e : splL (x :: xs) = (x :: (splL xs).2, (splL xs).1) := rfl
    rw [e]
    have := splL_len xs
    simp only [List.length_cons]
    omega
theorem triF_get {α : Type} : ∀ (n : Nat) (l : List α) (p : Pt), l.length ≤ n → Tr.getP p (triF n l) = l[p.num]?
  | 0, l, p, h => by
    rw [List.length_eq_zero_iff.1 (Nat.le_zero.1 h)]
    exact (Tr.getP_lf p).trans (by simp)
  | n + 1, [], p, _ => (Tr.getP_lf p).trans (by simp)
  | n + 1, x :: xs, p, h => by
    have hl := splL_len xs
    simp only [List.length_cons] at h
    cases p with
    | z => rfl
    | l q =>
      show Tr.getP q (triF n (splL xs).1) = (x :: xs)[2 * q.num + 1]?
      rw [triF_get n _ q (by omega), List.getElem?_cons_succ]
      exact (splL_get xs q.num).1
    | r q =>
      show Tr.getP q (triF n (splL xs).2) = (x :: xs)[2 * q.num + 2]?
      rw [triF_get n _ q (by omega), List.getElem?_cons_succ]
      exact (splL_get xs q.num).2
theorem fnd_eq (C : Cf) (f : Nat) : fnd C f = C.P.funcs[f]? := by
  have h := triF_get C.P.funcs.toList.length C.P.funcs.toList (path f) (Nat.le_refl _)
  rw [show (path f).num = f from pathF_num _ _ (Nat.lt_succ_self f)] at h
  exact h.trans (by simp)
/-! Answers. -/
def OkIn (a : Ans) (L : List Fin) : Prop := ∃ l, a = .ok l ∧ ∀ x ∈ l, x ∈ L
theorem OkIn.bad {f y : Nat} {L : List Fin} (h : OkIn (.bad f y) L) : False := by obtain ⟨l, h, _⟩ := h; cases h
theorem OkIn.app {a b : Ans} {L : List Fin} (h : OkIn (Ans.app a b) L) : OkIn a L ∧ OkIn b L := by
  obtain ⟨l, h, hl⟩ := h
  cases a with
  | bad f y => cases h
  | ok x =>
    cases b with
    | bad f y => cases h
    | ok y =>
      injection h with h
      subst h
      exact ⟨⟨x, rfl, fun z hz => hl z (List.mem_append_left _ hz)⟩, ⟨y, rfl, fun z hz => hl z (List.mem_append_right _ hz)⟩⟩
theorem OkIn.each {α : Type} (f : α → Ans) {L : List Fin} : ∀ {l : List α}, OkIn (List.rec (motive := fun _ => Ans) (.ok []) (fun x _ r => Ans.app (f x) r) l) L → ∀ x ∈ l, OkIn (f x) L
  | [], _, x, hx => by cases hx
  | y :: ys, h, x, hx => by
    have h : OkIn (Ans.app (f y) (List.rec (motive := fun _ => Ans) (.ok []) (fun x _ r => Ans.app (f x) r) ys)) L := h
    obtain ⟨h1, h2⟩ := h.app
    rcases List.mem_cons.1 hx with rfl | hx
    · exact h1
    · exact OkIn.each f h2 x hx
theorem OkIn.bind {a : Ans} {k p : CV → CH → Ans} {L : List Fin} (h : OkIn (bindF a k p) L) : ∃ l, a = .ok l ∧ (∀ v H, Fin.ret v H ∈ l → OkIn (k v H) L) ∧ ∀ v H, Fin.pan v H ∈ l → OkIn (p v H) L := by
  unfold bindF at h
  split at h
  · exact h.bad.elim
  · rename_i v H
    refine ⟨_, rfl, fun v' H' hm => ?_, fun v' H' hm => ?_⟩
    · simp at hm; obtain ⟨rfl, rfl⟩ := hm; exact h
    · simp at hm
  · rename_i l _
    have := OkIn.each (fun x : Fin => match x with
      | .ret v H => k v H
      | .pan v H => p v H) (l := l) h
    exact ⟨l, rfl, fun v H hm => this _ hm, fun v H hm => this _ hm⟩

/-! Slots. -/
def MarksR (ρ : Rho) : Ds → List Deferred → Prop
  | [], l => l = []
  | .mark d :: ds, l => ∃ b m rest, ρ d = some (b, m) ∧ l = { target := .collected b, args := #[] } :: rest ∧ MarksR ρ ds rest
  | .fn f args :: ds, l => ∃ (xs cs : List Value) (rest : List Deferred), CV.Rs ρ args (xs ++ cs) ∧ l = { target := .fn (.func f) cs.toArray, args := xs.toArray } :: rest ∧ MarksR ρ ds rest
theorem MarksR.mono {ρ ρ' : Rho} (hle : Rho.le ρ ρ') : ∀ {ds : Ds} {l : List Deferred}, MarksR ρ ds l → MarksR ρ' ds l
  | [], _, h => h
  | .mark _ :: _, _, ⟨b, m, rest, h1, h2, h3⟩ => ⟨b, m, rest, hle _ _ h1, h2, h3.mono hle⟩
  | .fn _ _ :: _, _, ⟨xs, cs, rest, h1, h2, h3⟩ => ⟨xs, cs, rest, CV.Rs_mono hle _ _ h1, h2, h3.mono hle⟩
/-- Slots, but for those of which nothing is said. -/
structure EvS (ρ : Rho) (N : Nat) (e : Tr CV) (ds : Ds) (a : Act) (S : Nat → Prop) : Prop where
  size : a.tmps.size = N
  slot : ∀ t v, e.get t = some v → ¬ S t → t < N ∧ v.R ρ (a.tmps.getD t undef)
  marks : MarksR ρ ds a.defers
noncomputable def putd (N : Nat) (e : Tr CV) (d : Option Tmp) (v : CV) : Tr CV := match d with
  | none => e
  | some t => bif Nat.ble (t + 1) N then e.set t (some v) else e
theorem putK_eq {β : Type} (N : Nat) (e : Tr CV) (d : Option Tmp) (v : CV) (k : Tr CV → β) : putK N e d v k = k (putd N e d v) := by
  cases d with
  | none => rfl
  | some t =>
    show pSome t N e v k = _
    unfold pSome putd
    simp only
    cases hb : Nat.ble (t + 1) N with
    | true => exact Tr.setK_eq _ _ _ _
    | false => rfl
theorem getD_set {tv : Array Value} {t j : Nat} {u : Value} : (tv.setIfInBounds t u).getD j undef = if j = t ∧ t < tv.size then u else tv.getD j undef := by
  simp only [Array.getD_eq_getD_getElem?, Array.getElem?_setIfInBounds]
  by_cases h : t = j
  · subst h
    by_cases h2 : t < tv.size
    · simp [h2]
    · simp [h2]
  · have : ¬ (j = t) := fun e => h e.symm
    simp [h, this]
section
variable {ρ ρ' : Rho} {N : Nat} {e : Tr CV} {ds : Ds} {a : Act} {S : Nat → Prop}
theorem get_putd {d : Option Tmp} {v : CV} {t : Nat} : (putd N e d v).get t = if d = some t ∧ t < N then some v else e.get t := by
  unfold putd
  split
  · simp
  · rename_i t'
    cases hb : Nat.ble (t' + 1) N with
    | true =>
      have := Nat.le_of_ble_eq_true hb
      simp only [cond_true, Tr.get_set]
      by_cases h : t = t'
      · subst h; rw [if_pos rfl, if_pos ⟨rfl, this⟩]
      · rw [if_neg h, if_neg]
        rintro ⟨h1, _⟩
        injection h1 with h1
        exact h h1.symm
    | false =>
      have : ¬ (t' + 1 ≤ N) := fun h => by rw [Nat.ble_eq_true_of_le h] at hb; cases hb
      simp only [cond_false]
      rw [if_neg]
      rintro ⟨h1, h2⟩
      injection h1 with h1
      subst h1
      exact this h2
theorem EvS.mono (hE : EvS ρ N e ds a S) (hle : Rho.le ρ ρ') : EvS ρ' N e ds a S := ⟨hE.size, fun t v h hs => ⟨(hE.slot t v h hs).1, CV.R_mono hle _ _ (hE.slot t v h hs).2⟩, hE.marks.mono hle⟩
theorem put_size (a : Act) (d : Option Tmp) (u : Value) : (a.put d u).tmps.size = a.tmps.size := by cases d <;> simp [Act.put]
theorem put_defers (a : Act) (d : Option Tmp) (u : Value) : (a.put d u).defers = a.defers := by cases d <;> rfl
theorem put_getD (a : Act) (d : Option Tmp) (u : Value) (t : Nat) : (a.put d u).tmps.getD t undef = if d = some t ∧ t < a.tmps.size then u else a.tmps.getD t undef := by
  cases d with
  | none => simp [Act.put]
  | some t' =>
    simp only [Act.put]
    rw [getD_set]
    by_cases h : t = t'
    · subst h; simp
    · have : ¬ (t' = t) := fun e => h e.symm
      simp [h, this]
theorem EvS.put (hE : EvS ρ N e ds a S) (hle : Rho.le ρ ρ') (d : Option Tmp) {v : CV} {u : Value} (hv : v.R ρ' u) : EvS ρ' N (putd N e d v) ds (a.put d u) S := by
  refine ⟨(put_size ..).trans hE.size, fun t x hx hs => ?_, by rw [put_defers]; exact hE.marks.mono hle⟩
  rw [get_putd] at hx
  rw [put_getD, hE.size]
  split at hx
  · rename_i h
    injection hx with hx
    subst hx
    rw [if_pos h]
    exact ⟨h.2, hv⟩
  · rename_i h
    rw [if_neg h]
    exact (hE.mono hle).slot t x hx hs
open Classical in
noncomputable def mop (S : Nat → Prop) (e : Tr CV) (x : Operand) : CV := match x with
  | .tmp t => if S t then .junk else opd e (.tmp t)
  | x => opd e x
theorem opd_tmp (t : Nat) : opd e (.tmp t) = (e.get t).getD .junk := by
  show dTmp t e = _
  unfold dTmp
  cases e.get t <;> rfl
theorem mop_ok (hE : EvS ρ N e ds a S) (x : Operand) : (mop S e x).R ρ (a.eval x) := by
  cases x with
  | tmp t =>
    show (mop S e (.tmp t)).R ρ (a.tmps.getD t undef)
    unfold mop
    simp only
    split
    · simp only [CV.R]
    · rename_i hs
      rw [opd_tmp]
      cases h : e.get t with
      | none => simp only [Option.getD_none, CV.R]
      | some v => exact (hE.slot t v h hs).2
  | const v => exact R_ofV v
  | global g => show (CV.gp g 0).R ρ _; simp only [CV.R]; rfl
  | func f => show (CV.v (.func (.func f) #[] #[])).R ρ _; simp only [CV.R]; rfl
theorem mop_eq {x : Operand} (h : ∀ t, x = .tmp t → ¬ S t) : mop S e x = opd e x := by
  cases x with
  | tmp t => exact if_neg (h t rfl)
  | _ => rfl
end
theorem mapL_congr {α β : Type} {f g : α → β} : ∀ {l : List α}, (∀ x ∈ l, f x = g x) → mapL f l = mapL g l
  | [], _ => rfl
  | x :: xs, h => by
    show f x :: mapL f xs = g x :: mapL g xs
    rw [h x (List.mem_cons_self ..), mapL_congr fun y hy => h y (List.mem_cons_of_mem _ hy)]
theorem optN_congr {g g' : Operand → CV} {d : Nat} {o : Option Operand} (h : ∀ x, o = some x → g x = g' x) : optN g d o = optN g' d o := by
  cases o with
  | none => rfl
  | some x => simp only [optN, h x rfl]
theorem parts_congr {g g' : Operand → CV} {l : List (Nat × Operand)} (h : ∀ x ∈ l.map (·.2), g x = g' x) : mapL (partsG g) l = mapL (partsG g') l :=
  mapL_congr fun p hp => by unfold partsG; rw [h p.2 (List.mem_map_of_mem hp)]
theorem calleeO_congr (C : Cf) (H : CH) {g g' : Operand → CV} (c : Call) (h : ∀ x ∈ c.operands.toList, g x = g' x) : calleeO C g H c = calleeO C g' H c := by
  obtain ⟨callee, ⟨al⟩, ts⟩ := c
  have ha : ∀ x ∈ al, g x = g' x := fun x hx => h x (by simp [Call.operands, hx])
  cases callee with
  | value f =>
    have hf : g f = g' f := h f (by simp [Call.operands])
    show callM C (g f) (mapL g al) = callM C (g' f) (mapL g' al)
    rw [hf, mapL_congr ha]
  | invoke r name =>
    have hf : g r = g' r := h r (by simp [Call.operands])
    show invO C (g r) name (mapL g al) = invO C (g' r) name (mapL g' al)
    rw [hf, mapL_congr ha]
  | builtin b =>
    show builtinC C.P C.T g H b ts.toList al = builtinC C.P C.T g' H b ts.toList al
    unfold builtinC
    split <;> first | rfl | skip
    · rw [ha _ (by simp)]
    · rw [ha _ (by simp)]
    · rename_i x y; rw [ha x (by simp), ha y (by simp)]
    · rename_i x y; rw [ha x (by simp), ha y (by simp)]
    · rename_i x y _; rw [ha x (by simp), ha y (by simp)]
    · rename_i x y _; rw [ha x (by simp), ha y (by simp)]
    · rename_i x y _; rw [ha x (by simp), ha y (by simp)]
    · rw [ha _ (by simp)]
theorem opC_congr (C : Cf) (H : CH) {g g' : Operand → CV} (op : Op) (h : ∀ x ∈ op.operands.toList, g x = g' x) : opC C g H op = opC C g' H op := by
  cases op <;> try rfl
  case move x => show Out.old (g x) .nop = _; rw [h x (by simp [Op.operands])]; rfl
  case assign x => show Out.old (g x) .nop = _; rw [h x (by simp [Op.operands])]; rfl
  case pick c a b => show pickO (g c) (g a) (g b) = _; rw [h c (by simp [Op.operands]), h a (by simp [Op.operands]), h b (by simp [Op.operands])]; rfl
  case box e x => show boxO H (g x) = _; rw [h x (by simp [Op.operands])]; rfl
  case build t ps => show buildC C.T t (mapL (partsG g) ps.toList) = _; rw [parts_congr fun x hx => h x (by simpa [Op.operands] using hx)]; rfl
  case buildSlice t n ps => show bsliceC C.T H t n (mapL (partsG g) ps.toList) = _; rw [parts_congr fun x hx => h x (by simpa [Op.operands] using hx)]; rfl
  case insert t m k x => show updC C.P C.T H t (g m) (g k) (g x) = _; rw [h m (by simp [Op.operands]), h k (by simp [Op.operands]), h x (by simp [Op.operands])]; rfl
  case load t a => show loadC C.T C.G H t (g a) = _; rw [h a (by simp [Op.operands])]; rfl
  case store t a x => show storeC C.T H t (g a) (g x) = _; rw [h a (by simp [Op.operands]), h x (by simp [Op.operands])]; rfl
  case nilCheck x => show nilM C.P (g x) = _; rw [h x (by simp [Op.operands])]; rfl
  case binOp op t x y yt => show binC C.T (cstO x || cstO y) op t (g x) (g y) = _; rw [h x (by simp [Op.operands]), h y (by simp [Op.operands])]; rfl
  case unOp op t x => show unO op (g x) = _; rw [h x (by simp [Op.operands])]; rfl
  case convert s d x => show convC C.T H s d (g x) = _; rw [h x (by simp [Op.operands])]; rfl
  case sliceToArrayPointer t x => show s2aO C.T t (g x) = _; rw [h x (by simp [Op.operands])]; rfl
  case makeInterface t x => show ifcC C.T t (g x) = _; rw [h x (by simp [Op.operands])]; rfl
  case makeFunc fn f c => show Out.new (.fnc fn (mapL g f.toList) (mapL g c.toList)) .nop = _; rw [mapL_congr fun x hx => h x (by simp [Op.operands] at hx ⊢; exact .inl hx), mapL_congr (l := c.toList) fun x hx => h x (by simp [Op.operands] at hx ⊢; exact .inr hx)]; rfl
  case makeSlice t l c => show msliceC C.T H t (g l) (g c) = _; rw [h l (by simp [Op.operands]), h c (by simp [Op.operands])]; rfl
  case slice t x lo hi mx =>
    have hx := h x (by simp [Op.operands])
    have h1 : ∀ d, optN g d lo = optN g' d lo := fun d => optN_congr fun y hy => h y (by subst hy; simp [Op.operands])
    have h2 : ∀ d, optN g d hi = optN g' d hi := fun d => optN_congr fun y hy => h y (by subst hy; simp [Op.operands])
    have h3 : ∀ d, optN g d mx = optN g' d mx := fun d => optN_congr fun y hy => h y (by subst hy; simp [Op.operands])
    show sliceO C.T H g t x lo hi mx = sliceO C.T H g' t x lo hi mx
    unfold sliceO sliceC
    simp only [hx, h1, h2, h3]
    cases mx with
    | none => rfl
    | some m =>
      have h4 : ∀ d, optN g d (some m) = optN g' d (some m) := h3
      simp only [h4]
  case fieldAddr t x f => show faddrC C.T t f (g x) = _; rw [h x (by simp [Op.operands])]; rfl
  case field t x f => show fieldO C.T t f (g x) = _; rw [h x (by simp [Op.operands])]; rfl
  case indexAddr t x i => show iaddrC C.T t (g x) (g i) = _; rw [h x (by simp [Op.operands]), h i (by simp [Op.operands])]; rfl
  case index t x i => show indexC C.T t (g x) (g i) = _; rw [h x (by simp [Op.operands]), h i (by simp [Op.operands])]; rfl
  case lookup t m k ok => show lookC C.P C.T H t (g m) (g k) ok = _; rw [h m (by simp [Op.operands]), h k (by simp [Op.operands])]; rfl
  case mapUpdate t m k x => show updC C.P C.T H t (g m) (g k) (g x) = _; rw [h m (by simp [Op.operands]), h k (by simp [Op.operands]), h x (by simp [Op.operands])]; rfl
  case mapEntry t m k => show mentC C.P C.T H t (g m) (g k) = _; rw [h m (by simp [Op.operands]), h k (by simp [Op.operands])]; rfl
  case entryStore t m s x => show estC H (g m) (g s) (g x) = _; rw [h m (by simp [Op.operands]), h s (by simp [Op.operands]), h x (by simp [Op.operands])]; rfl
  case range t x => show rangeC C.T H t (g x) = _; rw [h x (by simp [Op.operands])]; rfl
  case next it s => show nextC H (g it) s = _; rw [h it (by simp [Op.operands])]; rfl
  case entry it => show entryC H (g it) = _; rw [h it (by simp [Op.operands])]; rfl
  case typeAssert x xt t ok => show assertC C.T t ok (g x) = _; rw [h x (by simp [Op.operands])]; rfl
  case extract t i => show extrO (g t) i = _; rw [h t (by simp [Op.operands])]; rfl
  case call c => exact calleeO_congr C H c h
  case panic x => show panO (g x) = _; rw [h x (by simp [Op.operands])]; rfl
end Go.Proofs.YtjhaikcokbmdbaaGreatDoor.Cx
