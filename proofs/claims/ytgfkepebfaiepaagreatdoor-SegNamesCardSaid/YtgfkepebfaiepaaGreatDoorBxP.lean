/-
  append, as a write of the abstract machine.
-/
import Derived.Test.YtgfkepebfaiepaaGreatDoorBxO
namespace Go.Proofs.YtgfkepebfaiepaaGreatDoor.Ax
open Go.RowKit
def srcB (H : AH) (x : AV) : Option (List Cnd × List UInt8) :=
 match x with
 | .iv (.str l) => some ([.nle l.length 140737488355328], l)
 | x => (H.bytes x).map fun l => (H.bytesOk x, l)
def srcR (H : AH) (sz : Nat) (x : AV) : Option (List Cnd × Nat × (Nat → List IV)) :=
 match x with
 | .iv (.sl s m g) => bif Nat.beq s sz then some ([], m, g) else none
 | .iv (.v (.slice none 0 0)) => some ([], 0, fun _ => [])
 | .row h s off m => match H.get h with
   | some (.rowc _ s' n f) => bif Nat.beq s sz && Nat.beq s' sz then some ([.nle (off + m) n], m, bif Nat.beq off 0 then f else fun i => f (off + i)) else none
   | _ => none
 | _ => none
def isSeq (d : TD) : Bool := match d.k with | .sl _ | .str => true | _ => false
def zeroFits (d : TD) : Bool := match zeroA d with | some z => Nat.beq z.length d.size | none => false
def appW (T : TT) (H : AH) (t t2 : TypeId) (s x : AV) : WOut :=
 match elemOfT T t, T.get t2 with
 | some (e, de), some d2 =>
   bif isSeq d2 && zeroFits de && !(Nat.beq de.size 0) then
    bif isByte de then
     match srcB H x, s with
     | some (c, l), .iv (.v (.slice none 0 0)) => some (c ++ [.nle l.length 140737488355328], .row H.next 1 0 l.length, H.add (.brow e l))
     | some (c, l), .row h 1 0 len => match H.get h with
       | some (.brow e' l0) => bif Nat.beq e e' then some (c ++ [.nle len l0.length, .nle (len + l.length) 140737488355328], .row H.next 1 0 (len + l.length), (H.del h).add (.brow e (l0.take len ++ l))) else none
       | _ => none
     | _, _ => none
    else
     match srcR H de.size x, s with
     | some (c, m, g), .iv (.v (.slice none 0 0)) => some (c ++ [.nle (m * de.bytes) 140737488355328, .nle m 140737488355328], .row H.next de.size 0 m, H.add (.rowc e de.size m g))
     | some (c, m, g), .row h sz 0 len => match H.get h with
       | some (.rowc e' sz' n f) => bif Nat.beq e e' && Nat.beq sz de.size && Nat.beq sz' de.size then some (c ++ [.nle len n, .nle ((len + m) * de.bytes) 140737488355328, .nle (len + m) 140737488355328], .row H.next de.size 0 (len + m), (H.del h).add (.rowc e de.size (len + m) (fun i => if i < len then f i else g (i - len)))) else none
       | _ => none
     | _, _ => none
   else none
 | _, _ => none
section
variable {ρ : Rho} {ι : Imm} {P : Program} {w : World} {T : TT} {H : AH}
theorem ands_append (a b : List Cnd) : ands (a ++ b) True → ands a True ∧ ands b True := by
 induction a with
 | nil => intro h; exact ⟨trivial, h⟩
 | cons c cs ih =>
   rw [List.cons_append, ands_cons, ands_cons]
   exact fun h => ⟨⟨h.1, (ih h.2).1⟩, (ih h.2).2⟩
structure RowL (ι : Imm) (sz n : Nat) (f : Nat → List IV) (l : List Value) : Prop where
 len : l.length = n * sz
 at_ : ∀ i, i < n → IV.Rs ι (f i) ((l.drop (i * sz)).take sz)
 one : ∀ v ∈ l, v.oneCell' = true
theorem in_row {i n sz j : Nat} (hi : i < n) (hj : j < sz) : i * sz + j < n * sz := by
 have : (i + 1) * sz ≤ n * sz := Nat.mul_le_mul_right _ hi
 rw [Nat.succ_mul] at this
 omega
theorem RowAt.list {sz n len : Nat} {f : Nat → List IV} {arr : Array Value} (h : RowAt ι sz n f arr) (hn : len ≤ n) (hs : n * sz ≤ arr.size) (hz : sz ≠ 0) : RowL ι sz len f (arr.toList.take (len * sz)) := by
 have hle : len * sz ≤ arr.size := Nat.le_trans (Nat.mul_le_mul_right _ hn) hs
 have key : ∀ i, i < len → ∃ vs, IV.Rs ι (f i) vs ∧ (∀ v ∈ vs, v.oneCell' = true) ∧ ((arr.toList.take (len * sz)).drop (i * sz)).take sz = vs := fun i hi => by
  obtain ⟨vs, h1, h2, h3, h4⟩ := h i (by omega)
  refine ⟨vs, h1, h3, ?_⟩
  apply List.ext_getElem?
  intro j
  by_cases hj : j < sz
  ·rw [List.getElem?_take, if_pos hj, List.getElem?_drop, List.getElem?_take, if_pos (in_row hi hj)]
   have hv : j < vs.length := by omega
   rw [List.getElem?_eq_getElem hv]
   have := h4 j vs[j] (List.getElem?_eq_getElem hv)
   simpa using this
  ·rw [List.getElem?_take, if_neg hj, List.getElem?_eq_none (by omega)]
 refine ⟨by rw [List.length_take, Array.length_toList]; omega, fun i hi => ?_, fun v hv => ?_⟩
 ·obtain ⟨vs, h1, _, h3⟩ := key i hi
  rw [h3]; exact h1
 ·obtain ⟨j, hj⟩ := List.mem_iff_getElem?.1 hv
  have hjl : j < len * sz := by
   rcases Nat.lt_or_ge j (len * sz) with h' | h'
   ·exact h'
   ·rw [List.getElem?_take, if_neg (by omega)] at hj; cases hj
  have hq : j / sz < len := Nat.div_lt_of_lt_mul (by rw [Nat.mul_comm]; exact hjl)
  obtain ⟨vs, _, h2, h3⟩ := key (j / sz) hq
  refine h2 v ?_
  rw [← h3]
  refine List.mem_iff_getElem?.2 ⟨j % sz, ?_⟩
  rw [List.getElem?_take, if_pos (Nat.mod_lt _ (Nat.pos_of_ne_zero hz)), List.getElem?_drop, Nat.div_add_mod']
  exact hj
theorem RowL.join {sz n m : Nat} {f g : Nat → List IV} {a b : List Value} (h : RowL ι sz n f a) (h' : RowL ι sz m g b) : RowL ι sz (n + m) (fun i => if i < n then f i else g (i - n)) (a ++ b) := by
 refine ⟨by rw [List.length_append, h.len, h'.len, Nat.add_mul], fun i hi => ?_, fun v hv => ?_⟩
 ·by_cases hin : i < n
  ·simp only [if_pos hin]
   have e : ((a ++ b).drop (i * sz)).take sz = (a.drop (i * sz)).take sz := by
    have hfit : i * sz + sz ≤ a.length := by rw [h.len, ← Nat.succ_mul]; exact Nat.mul_le_mul_right _ hin
    rw [List.drop_append_of_le_length (by omega), List.take_append_of_le_length (by rw [List.length_drop]; omega)]
   rw [e]
   exact h.at_ i hin
  ·simp only [if_neg hin]
   have e : ((a ++ b).drop (i * sz)).take sz = (b.drop ((i - n) * sz)).take sz := by
    have e1 : i * sz = a.length + (i - n) * sz := by rw [h.len, ← Nat.add_mul]; congr 1; omega
    rw [e1, ← List.drop_drop, List.drop_left]
   rw [e]
   exact h'.at_ (i - n) (by omega)
 ·rcases List.mem_append.1 hv with hv | hv
  ·exact h.one v hv
  ·exact h'.one v hv
theorem RowL.at {sz n : Nat} {f : Nat → List IV} {l : List Value} {arr : Array Value} (h : RowL ι sz n f l) (ha : ∀ (j : Nat) (u : Value), l[j]? = some u → arr[j]? = some u) : RowAt ι sz n f arr := by
 intro i hi
 refine ⟨_, h.at_ i hi, ?_, fun v hv => h.one v (List.mem_of_mem_drop (List.mem_of_mem_take hv)), fun j u hu => ?_⟩
 ·have : i * sz + sz ≤ l.length := by rw [h.len, ← Nat.succ_mul]; exact Nat.mul_le_mul_right _ hi
  rw [List.length_take, List.length_drop]; omega
 ·rw [List.getElem?_take] at hu
  split at hu
  ·rw [List.getElem?_drop] at hu
   exact ha _ _ hu
  ·cases hu
theorem RowL.nil (sz : Nat) (f : Nat → List IV) : RowL ι sz 0 f [] := ⟨by simp, fun i hi => absurd hi (Nat.not_lt_zero i), fun v hv => by cases hv⟩
def bvals (l : List UInt8) : List Value := l.map fun c => .int .u8 (c.toNat : Int)
theorem bvals_get {l : List UInt8} {arr : Array Value} (h : ∀ i, i < l.length → arr[i]? = some (.int .u8 ((l.getD i 0).toNat : Int))) : ∀ (j : Nat) (u : Value), (bvals l)[j]? = some u → arr[j]? = some u := by
 intro j u hu
 have hj : j < l.length := by
  rcases Nat.lt_or_ge j (bvals l).length with h' | h'
  ·simpa [bvals] using h'
  ·rw [List.getElem?_eq_none h'] at hu; cases hu
 rw [h j hj]
 simp only [bvals, List.getElem?_map, List.getElem?_eq_getElem hj, Option.map_some, Option.some.injEq] at hu
 rw [← hu]
 simp [List.getD, hj]
theorem bvals_arr {l : List UInt8} {arr : Array Value} (h : ∀ (j : Nat) (u : Value), (bvals l)[j]? = some u → arr[j]? = some u) : ∀ i, i < l.length → arr[i]? = some (.int .u8 ((l.getD i 0).toNat : Int)) := by
 intro i hi
 refine h i _ ?_
 simp [bvals, hi, List.getD]
theorem srcB_ok (hS : SR ρ ι H w) {x : AV} {v : Value} (hx : x.R ρ ι v) {c : List Cnd} {l : List UInt8} (h : srcB H x = some (c, l)) (hc : ands c True) : News P w 1 v l.length (bvals l) := by
 have hone : ∀ v ∈ bvals l, v.oneCell' = true := fun v hv => by
  obtain ⟨a, _, rfl⟩ := List.mem_map.1 hv
  rfl
 unfold srcB at h
 split at h
 ·rename_i l'
  simp only [Option.some.injEq, Prod.mk.injEq] at h
  obtain ⟨rfl, rfl⟩ := h
  simp only [AV.R, IV.R] at hx
  subst hx
  have hsz : (⟨l'.toArray⟩ : ByteArray).size = l'.length := by simp [ByteArray.size]
  have hf : ∀ w : World, (Builtin.firstCells 1 l'.length (.string ⟨l'.toArray⟩)).run P w = .ok (bvals l').toArray w := fun w => by
   have e : ((⟨l'.toArray⟩ : ByteArray).extract 0 l'.length).data = l'.toArray := by
    rw [ByteArray.data_extract]
    simp
   simp only [Builtin.firstCells, Sem.run_pure, e]
   congr 1
   simp [bvals]
  exact ⟨by simp [Builtin.lenOf, hsz], hf w, hf w.drew, by simp [bvals], hone⟩
 ·obtain ⟨l', hl, hq⟩ := Option.map_eq_some_iff.1 h
  simp only [Prod.mk.injEq] at hq
  obtain ⟨rfl, rfl⟩ := hq
  obtain ⟨A, c', rfl, _, _, hb⟩ := bytes_read hS hx hl hc
  refine News.of_cells (by simp [bvals]) hone fun j u hu => ?_
  have hj : j < l'.length := by
   rcases Nat.lt_or_ge j (bvals l').length with h' | h'
   ·simpa [bvals] using h'
   ·rw [List.getElem?_eq_none h'] at hu; cases hu
  obtain ⟨ad, e1, s1, r1⟩ := hb j hj
  refine ⟨ad, e1, s1, ?_⟩
  rw [r1]
  simp only [bvals, List.getElem?_map, List.getElem?_eq_getElem hj, Option.map_some, Option.some.injEq] at hu
  rw [← hu]
  simp [List.getD, hj]
theorem choose_list {sz m : Nat} {g : Nat → List IV} {C : Nat → Value → Prop} : (∀ k, k < m → ∃ vs : List Value, IV.Rs ι (g k) vs ∧ vs.length = sz ∧ (∀ v ∈ vs, v.oneCell' = true) ∧ ∀ (j : Nat) (u : Value), vs[j]? = some u → C (k * sz + j) u) →
 ∃ l, RowL ι sz m g l ∧ ∀ (j : Nat) (u : Value), l[j]? = some u → C j u := by
 induction m with
 | zero => intro _; exact ⟨[], RowL.nil _ _, fun j u hu => by simp at hu⟩
 | succ m ih =>
   intro h
   obtain ⟨l, h1, h2⟩ := ih fun k hk => h k (by omega)
   obtain ⟨vs, g1, g2, g3, g4⟩ := h m (by omega)
   have hone : RowL ι sz 1 (fun _ => g m) vs := ⟨by omega, fun i hi => by
    have : i = 0 := by omega
    subst this
    rw [Nat.zero_mul, List.drop_zero, List.take_of_length_le (by omega)]
    exact g1, g3⟩
   have hj := h1.join hone
   refine ⟨l ++ vs, ⟨hj.len, fun i hi => ?_, hj.one⟩, fun j u hu => ?_⟩
   ·have := hj.at_ i hi
    by_cases him : i < m
    ·simpa only [if_pos him] using this
    ·have : i = m := by omega
     subst this
     have := hj.at_ i hi
     simpa only [if_neg him] using this
   ·by_cases hjl : j < l.length
    ·rw [List.getElem?_append_left hjl] at hu
     exact h2 j u hu
    ·rw [List.getElem?_append_right (by omega)] at hu
     have := g4 _ _ hu
     rw [h1.len] at this hjl
     rwa [show m * sz + (j - m * sz) = j by omega] at this
theorem srcR_ok (hS : SR ρ ι H w) {sz : Nat} (hz : sz ≠ 0) {x : AV} {v : Value} (hx : x.R ρ ι v) {c : List Cnd} {m : Nat} {g : Nat → List IV} (h : srcR H sz x = some (c, m, g)) (hc : ands c True) : ∃ news, News P w sz v m news ∧ RowL ι sz m g news := by
 unfold srcR at h
 split at h
 ·rename_i s m' g'
  cases hb : Nat.beq s sz with
  | false => rw [hb] at h; cases h
  | true =>
    rw [hb] at h
    simp only [cond_true, Option.some.injEq, Prod.mk.injEq] at h
    obtain ⟨rfl, rfl, rfl⟩ := h
    have := Nat.eq_of_beq_eq_true hb
    subst this
    simp only [AV.R, IV.R] at hx
    obtain ⟨A, c', rfl, h2, h3, h4⟩ := hx
    obtain ⟨l, l1, l2⟩ := choose_list (ι := ι) (sz := s) (m := m') (g := g') (C := fun j u => ∃ ad, A = some ad ∧ ad.spot = none ∧ w.cell? ⟨ad.block, ad.off + j, none⟩ = some u) (fun k hk => by
     obtain ⟨ad, vs, e1, s1, r1, r2, r3⟩ := h4 k hk
     refine ⟨vs, r1, r2, fun v hv => ?_, fun j u hu => ⟨ad, e1, s1, ?_⟩⟩
     ·obtain ⟨j, hj⟩ := List.mem_iff_getElem?.1 hv
      exact hS.one _ _ _ (r3 j v hj)
     ·have := hS.imm _ _ _ (r3 j u hu)
      rwa [← Nat.add_assoc])
    exact ⟨l, News.of_cells l1.len l1.one l2, l1⟩
 ·simp only [Option.some.injEq, Prod.mk.injEq] at h
  obtain ⟨rfl, rfl, rfl⟩ := h
  simp only [AV.R, IV.R] at hx
  subst hx
  exact ⟨[], News.of_cells (by simp) (fun v hv => by cases hv) (fun j u hu => by simp at hu), RowL.nil _ _⟩
 ·rename_i h0 s off m'
  split at h
  ·rename_i e s' n f hg
   cases hb : (Nat.beq s sz && Nat.beq s' sz) with
   | false => rw [hb] at h; cases h
   | true =>
     rw [hb] at h
     rw [Bool.and_eq_true] at hb
     simp only [cond_true, Option.some.injEq, Prod.mk.injEq] at h
     obtain ⟨rfl, rfl, rfl⟩ := h
     have e1 := Nat.eq_of_beq_eq_true hb.1
     have e2 := Nat.eq_of_beq_eq_true hb.2
     subst e1
     subst e2
     obtain ⟨hle, _⟩ := hc
     have hgf : ∀ i, (bif Nat.beq off 0 then f else fun i => f (off + i)) i = f (off + i) := fun i => by
      cases ho : Nat.beq off 0 with
      | true =>
        have := Nat.eq_of_beq_eq_true ho
        subst this
        simp
      | false => rfl
     simp only [AV.R] at hx
     obtain ⟨A, c', rfl, h2, h3, h4⟩ := hx
     obtain ⟨l, l1, l2⟩ := choose_list (ι := ι) (sz := s') (m := m') (g := bif Nat.beq off 0 then f else fun i => f (off + i)) (C := fun j u => ∃ ad, A = some ad ∧ ad.spot = none ∧ w.cell? ⟨ad.block, ad.off + j, none⟩ = some u) (fun k hk => by
      obtain ⟨hv, b, g1, g2, g3, g4⟩ := h4 (by omega)
      obtain ⟨hv', g5, g6⟩ := hS.hv hg
      rw [g1] at g5
      injection g5 with g5
      subst g5
      rcases g6 with ⟨g6, _⟩ | ⟨b', arr, fr, q1, q2, q3, q4, q5, q6, q7⟩
      ·rw [g2] at g6; cases g6
      ·rw [g2] at q1
       injection q1 with q1
       subst q1
       obtain ⟨vs, r1, r2, r3, r4⟩ := q7 (off + k) (by omega)
       refine ⟨vs, by rw [hgf]; exact r1, r2, r3, fun j u hu => ⟨_, g3, rfl, ?_⟩⟩
       rw [heap_cell q3]
       have := r4 j u hu
       rw [Nat.add_mul] at this
       rw [← Nat.add_assoc]
       exact this)
     exact ⟨l, News.of_cells l1.len l1.one l2, l1⟩
  ·cases h
 ·cases h
def copyW (T : TT) (H : AH) (t : TypeId) (s x : AV) : WOut :=
 match elemOfT T t with
 | some (e, de) => bif isByte de && Nat.beq de.size 1 then
    match s, x with
    | .row h 1 0 n, .iv (.bs l) => match H.get h with
      | some (.brow e' l0) => bif Nat.beq e e' then some ([.nle n l0.length], .int .i64 (min l.length n : Nat), H.set h (.brow e' (l.take n ++ l0.drop (min l.length n)))) else none
      | _ => none
    | _, _ => none
   else none
 | none => none
theorem copyW_ok (hT : TOk P T) (hS : SR ρ ι H w) (t t2 ty : TypeId) (s x : AV) {u v : Value} (hs : s.R ρ ι u) (hx : x.R ρ ι v) {cs : List Cnd} {r : AV} {H' : AH} (h : copyW T H t s x = some (cs, r, H')) (hc : ands cs True) :
 ∃ z w', (Builtin.copy_ #[t, t2] ty #[u, v]).run P w = .ok z w' ∧ SR ρ ι H' w' ∧ Went ρ ι H w ρ ι H' w' ∧ r.R ρ ι z := by
 unfold copyW at h
 split at h
 ·rename_i e de he
  cases hb : (isByte de && Nat.beq de.size 1) with
  | false => rw [hb] at h; cases h
  | true =>
    rw [hb] at h
    rw [Bool.and_eq_true] at hb
    have hsz := Nat.eq_of_beq_eq_true hb.2
    simp only [cond_true] at h
    split at h
    ·rename_i hd n l
     split at h
     ·rename_i e' l0 hg
      cases hbe : Nat.beq e e' with
      | false => rw [hbe] at h; cases h
      | true =>
        rw [hbe] at h
        simp only [cond_true, Option.some.injEq, Prod.mk.injEq] at h
        obtain ⟨rfl, rfl, rfl⟩ := h
        have hn : n ≤ l0.length := hc.1
        obtain ⟨hu, hde⟩ := elemOfT_spec hT he
        have hso := run_sizeOf' hT hde w
        simp only [AV.R, IV.R] at hs hx
        obtain ⟨A, cap, rfl, h2, h3, h4⟩ := hs
        obtain ⟨B, capB, rfl, b2, b3, b4⟩ := hx
        obtain ⟨hv, hhr, hR⟩ := hS.hv hg
        have hgo : ∀ m : Nat, (AV.int .i64 (m : Nat)).R ρ ι (goInt m) := fun m => by simp [AV.R, IV.R, goInt]
        have hmin : Nat.min l.length n = min l.length n := rfl
        by_cases h0 : min l.length n = 0
        ·refine ⟨goInt 0, w, ?_, ?_⟩
         ·have hf : (Builtin.firstCells 1 0 (.slice B l.length capB)).run P w = .ok #[] w := by
           cases B with
           | none => simp [Builtin.firstCells]
           | some a => simp [Builtin.firstCells, loadCells, loadCellsFrom]
          cases A with
          | none => simp [Builtin.copy_, run_underlying hu, Builtin.lenOf, hmin, h0, hso, hsz, hf]
          | some a => simp [Builtin.copy_, run_underlying hu, Builtin.lenOf, hmin, h0, hso, hsz, hf, storeCells]
         ·have hL : l.take n ++ l0.drop (min l.length n) = l0 := by
           have : l.take n = [] := List.eq_nil_of_length_eq_zero (by rw [List.length_take]; omega)
           simp [this, h0]
          rw [hL, h0]
          obtain ⟨s1, s2⟩ := hS.turn (c' := .brow e' l0) hg hhr (Touch.refl _ _) hR
          exact ⟨s1, s2, hgo 0⟩
        ·have hcap : cap ≠ 0 := fun e => by omega
         obtain ⟨hv', b, g1, g2, rfl, g4⟩ := h4 hcap
         clear h4
         rw [hhr] at g1
         injection g1 with g1
         subst g1
         rcases hR with ⟨r1, _⟩ | ⟨b', arr, fr, r1, r2, r3, r4, r5, r6, r7⟩
         ·rw [g2] at r1; cases r1
         ·rw [g2] at r1
          injection r1 with r1
          subst r1
          have hbl : ((bvals l).take (min l.length n)).length = min l.length n := by
           rw [List.length_take]
           simp [bvals]
          have hone : ∀ v ∈ (bvals l).take (min l.length n), v.oneCell' = true := fun v hv => by
           obtain ⟨a, _, rfl⟩ := List.mem_map.1 (List.mem_of_mem_take hv)
           rfl
          have hf : (Builtin.firstCells 1 (min l.length n) (.slice B l.length capB)).run P w = .ok ((bvals l).take (min l.length n)).toArray w := by
           obtain ⟨ad, rfl, hsp, _⟩ := b4 0 (by omega)
           refine run_firstCells_some w 1 _ ad _ _ _ (by rw [hbl, Nat.mul_one]) fun j v hv => ?_
           have hj : j < min l.length n := by
            rcases Nat.lt_or_ge j (min l.length n) with h' | h'
            ·exact h'
            ·rw [List.getElem?_eq_none (by omega)] at hv; cases hv
           obtain ⟨ad', e1, _, q⟩ := b4 j (by omega)
           injection e1 with e1
           subst e1
           rw [add_none' hsp]
           have := hS.imm _ _ _ q
           rw [this, ← hv, List.getElem?_take_of_lt hj]
           simp [bvals, List.getD, show j < l.length by omega]
          have hst := run_stores (P := P) (e := e') (fr := fr) 0 ((bvals l).take (min l.length n)) 0 arr w r3 r5 (by omega) hone
          have hlen : (l.take n ++ l0.drop (min l.length n)).length = l0.length := by
           rw [List.length_append, List.length_take, List.length_drop]
           omega
          have hat : ∀ i, i < (l.take n ++ l0.drop (min l.length n)).length → (layArr arr 0 ((bvals l).take (min l.length n)))[i]? = some (.int .u8 (((l.take n ++ l0.drop (min l.length n)).getD i 0).toNat : Int)) := fun i hi => by
           rw [hlen] at hi
           by_cases hin : i < min l.length n
           ·have h5 := layArr_in ((bvals l).take (min l.length n)) arr 0 i (by omega) (by omega)
            rw [Nat.zero_add] at h5
            rw [h5, List.getElem?_take_of_lt hin, List.getD_eq_getElem?_getD, List.getElem?_append_left (by rw [List.length_take]; omega), List.getElem?_take_of_lt (by omega)]
            simp [bvals, show i < l.length by omega]
           ·rw [layArr_out _ _ _ _ (.inr (by omega)), r7 i (by omega), List.getD_eq_getElem?_getD, List.getD_eq_getElem?_getD, List.getElem?_append_right (by rw [List.length_take]; omega), List.getElem?_drop, List.length_take]
            rw [show min l.length n + (i - min n l.length) = i by omega]
          have hnew : (Chunk.brow e' (l.take n ++ l0.drop (min l.length n))).R ρ ι hv (putObj w b (.cells (layArr arr 0 ((bvals l).take (min l.length n))) e' fr)) :=
           .inr ⟨b, _, fr, g2, r2, putObj_same r3, by rw [layArr_size]; exact r4, by rw [layArr_size]; exact r5, by rw [layArr_size, hlen]; exact r6, hat⟩
          obtain ⟨s1, s2⟩ := hS.put hg hhr r2 _ hnew
          refine ⟨goInt ((min l.length n : Nat) : Int), _, ?_, s1, s2, hgo _⟩
          simp [Builtin.copy_, run_underlying hu, Builtin.lenOf, hmin, hso, hsz, hf, hst]
     ·cases h
    ·cases h
 ·cases h
end
end Go.Proofs.YtgfkepebfaiepaaGreatDoor.Ax
