/-
  Operations that make memory.
-/
import Derived.Test.YtgfkepebfaiepaaGreatDoorBxK
namespace Go.Proofs.YtgfkepebfaiepaaGreatDoor.Ax
open Go.RowKit
def toBytes : List AV → Option (List Cnd × List UInt8)
 | [] => some ([], [])
 | .iv (.v (.int .u8 n)) :: xs => match toBytes xs with
   | some (cs, l) => some (.le 0 n :: .le n 255 :: cs, UInt8.ofNat n.toNat :: l)
   | none => none
 | _ => none
def isByte (d : TD) : Bool := match d.k with | .int .u8 => true | _ => false
def repA (z : List AV) : Nat → List AV
 | 0 => []
 | n + 1 => z ++ repA z n
def rowOf (e : Nat) (de : TD) (len : Nat) (flat : List AV) : Option (List Cnd × Chunk) :=
 bif isByte de then (toBytes flat).map fun p => (p.1, .brow e p.2) else
 bif !(flat.all AV.one) then none else
 match toIVs flat with
 | some l => some ([], .rowc e de.size len (bif Nat.beq len 1 then fun _ => l else fun i => (l.drop (i * de.size)).take de.size))
 | none => some ([], .cells e flat)
def xop (T : TT) (g : Operand → AV) : Op → Option (List Cnd × Chunk × (Nat → AV))
 | .alloc e => match T.get e with
   | some d => (zeroA d).map fun cs => ([], .cells e cs, fun h => .ptr h 0)
   | none => none
 | .box e x => (g x).cells.map fun cs => ([], .cells e cs, fun h => .ptr h 0)
 | .buildSlice t len ps => match elemOfT T t with
   | some (e, de) => match zeroA de with
     | some z => match fillA (fun i => some (i * de.size, de.size)) (repA z len) (ps.toList.map fun p => (p.1, g p.2)) with
       | some flat => bif Nat.beq z.length de.size && !(Nat.beq de.size 0) && Nat.ble (len * de.size) 1000 then (rowOf e de len flat).map fun p => (p.1, p.2, fun h => .row h de.size 0 len) else none
       | none => none
     | none => none
   | none => none
 | .makeMap t none => match T.get t with
   | some d => match d.k with
     | .mp kt _ => match (T.get kt).bind (·.k.key) with
       | some kk => some ([], .map kk [], fun h => .mp h)
       | none => none
     | _ => none
   | none => none
 | .makeSlice t l c => match elemOfT T t, g l, g c with
   | some (e, de), .iv (.v (.int .i64 n)), .iv (.v (.int .i64 m)) => match zeroA de with
     | some z => bif Nat.beq z.length de.size && !(Nat.beq de.size 0) then
        bif isByte de then some ([.le 0 n, .le n m, .le m 140737488355328], .brow e (List.replicate n.toNat 0), fun h => .row h 1 0 n.toNat)
        else bif !(z.all AV.one) then none else (toIVs z).map fun zi => ([.le 0 n, .le n m, .le (m * de.bytes) 140737488355328, .le m 140737488355328], .rowc e de.size n.toNat (fun _ => zi), fun h => .row h de.size 0 n.toNat)
       else none
     | none => none
   | _, _, _ => none
 | .convert s d x => match T.get s, elemOfT T d, g x with
   | some ts, some (e, de), .iv (.str l) => match ts.k, de.k with
     | .str, .int .u8 => some ([.nle l.length 140737488355328], .brow e l, fun h => .row h 1 0 l.length)
     | _, _ => none
   | _, _, _ => none
 | _ => none
section
variable {ρ : Rho} {ι : Imm} {P : Program} {w : World} {T : TT} {H : AH}
def one1 (b : Nat) (n : Nat) : HV := ⟨some b, n, fun k => k = b⟩
theorem touch_alloc (w : World) (o : Obj) : Touch (fun _ => False) w (w.alloc o) := ⟨rfl, rfl, rfl, by simp, fun k hk _ => heap_alloc_old w o hk⟩
theorem SR.alloc (hS : SR ρ ι H w) (o : Obj) (n : Nat) (c : Chunk) (hc : c.R (ρ.upd H.next (one1 w.heap.size n)) ι (one1 w.heap.size n) (w.alloc o)) :
 SR (ρ.upd H.next (one1 w.heap.size n)) ι (H.add c) (w.alloc o) ∧ Went ρ ι H w (ρ.upd H.next (one1 w.heap.size n)) ι (H.add c) (w.alloc o) :=
 hS.add c (one1 w.heap.size n) (touch_alloc w o) (fun k hk => by have : k = w.heap.size := hk; subst this; exact ⟨Nat.le_refl _, by simp⟩) hc
theorem SR.alloc_cells (hS : SR ρ ι H w) (e : TypeId) (cs : List AV) (vs : List Value) (hr : AV.Rs ρ ι cs vs) :
 SR (ρ.upd H.next (one1 w.heap.size vs.length)) ι (H.add (.cells e cs)) (w.alloc (.cells vs.toArray e)) ∧ Went ρ ι H w (ρ.upd H.next (one1 w.heap.size vs.length)) ι (H.add (.cells e cs)) (w.alloc (.cells vs.toArray e)) :=
 hS.alloc _ _ _ ⟨w.heap.size, vs, rfl, fun _ => Iff.rfl, heap_alloc_new w _, AV.Rs_mono (Rho.le_upd _ (hS.fresh _ (Nat.le_refl _))) (Imm.le.refl _) _ _ hr⟩
theorem upd_ptr (n : Nat) : (AV.ptr H.next 0).R (ρ.upd H.next (one1 w.heap.size n)) ι (.pointer (some ⟨w.heap.size, 0, none⟩)) := by
 simp only [AV.R]
 exact ⟨_, _, Rho.upd_same _ _ _, rfl, rfl⟩
def TBytes (T : TT) : Prop := ∀ t d, T.get t = some d → isByte d = true → d.size = 1 ∧ d.bytes = 1 ∧ d.zero = some (.int .u8 0)
def rowLen (c : Chunk) (f : Nat → AV) : Prop := match c with
 | .brow _ l => f = fun h => .row h 1 0 l.length
 | .rowc _ sz n _ => f = fun h => .row h sz 0 n
 | _ => True
def XOk (P : Program) (w : World) (s : Sem Next) (ρ : Rho) (ι : Imm) (H : AH) (c : Chunk) (f : Nat → AV) : Prop :=
 ∃ v w' ρ', s.run P w = .ok (.value v) w' ∧ SR ρ' ι (H.add c) w' ∧ Went ρ ι H w ρ' ι (H.add c) w' ∧ (f H.next).R ρ' ι v ∧ Touch (fun _ => False) w w' ∧ rowLen c f ∧ ∃ hu, ρ' = ρ.upd H.next hu
theorem toBytes_len : ∀ (l : List AV) (cs : List Cnd) (r : List UInt8), toBytes l = some (cs, r) → r.length = l.length
 | [], cs, r, h => by simp only [toBytes, Option.some.injEq, Prod.mk.injEq] at h; obtain ⟨rfl, rfl⟩ := h; rfl
 | x :: xs, cs, r, h => by
   unfold toBytes at h
   split at h
   ·rename_i he; cases he
   ·rename_i n ys he
    simp only [List.cons.injEq] at he
    obtain ⟨rfl, rfl⟩ := he
    split at h
    ·rename_i cs' l' hl
     simp only [Option.some.injEq, Prod.mk.injEq] at h
     obtain ⟨rfl, rfl⟩ := h
     simp [toBytes_len xs cs' l' hl]
    ·cases h
   ·cases h
theorem ofNat_toNat {n : Int} (h0 : 0 ≤ n) (h1 : n ≤ 255) : ((UInt8.ofNat n.toNat).toNat : Int) = n := by
 rw [UInt8.toNat_ofNat']; omega
theorem toBytes_spec : ∀ (l : List AV) (cs : List Cnd) (r : List UInt8) (vs : List Value), toBytes l = some (cs, r) → ands cs True → AV.Rs ρ ι l vs → vs = r.map fun c => .int .u8 (c.toNat : Int)
 | [], cs, r, vs, h, hc, hr => by simp only [toBytes, Option.some.injEq, Prod.mk.injEq] at h; obtain ⟨rfl, rfl⟩ := h; simpa [AV.Rs] using hr
 | x :: xs, cs, r, vs, h, hc, hr => by
   unfold toBytes at h
   split at h
   ·rename_i he; cases he
   ·rename_i n ys he
    simp only [List.cons.injEq] at he
    obtain ⟨rfl, rfl⟩ := he
    split at h
    ·rename_i cs' l' hl
     simp only [Option.some.injEq, Prod.mk.injEq] at h
     obtain ⟨rfl, rfl⟩ := h
     obtain ⟨c0, c1, c2⟩ := hc
     simp only [AV.Rs, AV.R, IV.R] at hr
     obtain ⟨u, us, rfl, rfl, r2⟩ := hr
     have := toBytes_spec xs cs' l' us hl c2 r2
     rw [this, List.map_cons, ofNat_toNat c0 c1]
    ·cases h
   ·cases h
theorem AV.one_ok {x : AV} {v : Value} (h : x.one = true) (hx : x.R ρ ι v) : v.oneCell' = true := by
 cases x with
 | iv y =>
   cases y with
   | v z => simp only [AV.R, IV.R] at hx; subst hx; exact h
   | agg l => cases h
   | str l => simp only [AV.R, IV.R] at hx; subst hx; rfl
   | bs l => simp only [AV.R, IV.R] at hx; obtain ⟨_, _, rfl, _⟩ := hx; rfl
   | sl sz n f => simp only [AV.R, IV.R] at hx; obtain ⟨_, _, rfl, _⟩ := hx; rfl
   | pp cs => simp only [AV.R, IV.R] at hx; obtain ⟨_, _, rfl, _⟩ := hx; rfl
   | ifc t x => simp only [AV.R, IV.R] at hx; obtain ⟨_, rfl, _⟩ := hx; rfl
   | fnc a b c => simp only [AV.R, IV.R] at hx; obtain ⟨_, _, rfl, _⟩ := hx; rfl
 | ptr h o => simp only [AV.R] at hx; obtain ⟨_, _, _, _, rfl⟩ := hx; rfl
 | el h sz i fo => simp only [AV.R] at hx; obtain ⟨_, _, _, _, rfl⟩ := hx; rfl
 | row h sz off len => simp only [AV.R] at hx; obtain ⟨_, _, rfl, _⟩ := hx; rfl
 | mp h => simp only [AV.R] at hx; obtain ⟨_, _, _, _, rfl⟩ := hx; rfl
 | ifc t x => simp only [AV.R] at hx; obtain ⟨_, rfl, _⟩ := hx; rfl
 | fnc a b c => simp only [AV.R] at hx; obtain ⟨_, _, rfl, _⟩ := hx; rfl
 | pp cs => simp only [AV.R] at hx; obtain ⟨_, _, rfl, _⟩ := hx; rfl
 | sl sz n f => simp only [AV.R] at hx; obtain ⟨_, _, rfl, _⟩ := hx; rfl
 | agg l => cases h
 | tup l => cases h
 | junk => cases h
 | anyb => simp only [AV.R] at hx; obtain ⟨_, rfl⟩ := hx; rfl
theorem all_one {xs : List AV} {vs : List Value} (h : xs.all AV.one = true) (hr : AV.Rs ρ ι xs vs) : ∀ v ∈ vs, v.oneCell' = true := by
 induction xs generalizing vs with
 | nil => simp only [AV.Rs] at hr; subst hr; intro v hv; cases hv
 | cons x xs ih =>
   simp only [AV.Rs] at hr
   obtain ⟨u, us, rfl, r, rs⟩ := hr
   simp only [List.all_cons, Bool.and_eq_true] at h
   intro v hv
   rcases List.mem_cons.1 hv with rfl | hv
   ·exact AV.one_ok h.1 r
   ·exact ih h.2 rs v hv
theorem rowOf_ok (e : Nat) (de : TD) (len : Nat) (flat : List AV) (vs : List Value) {cs : List Cnd} {c : Chunk} (h : rowOf e de len flat = some (cs, c)) (hc : ands cs True) (hr : AV.Rs ρ ι flat vs) (hl : vs.length = len * de.size) (_ : isByte de = true → de.size = 1)
 (hv : HV) (b : Nat) (h1 : hv.blk = some b) (h2 : ∀ k, hv.foot k ↔ k = b) (w : World) (rest : List Value) (h3 : w.heap[b]? = some (.cells (vs ++ rest).toArray e (0, 0))) (h4 : hv.room = vs.length + rest.length) (hrest : rest = []) : c.R ρ ι hv w := by
 unfold rowOf at h
 cases hby : isByte de with
 | true =>
   rw [hby] at h
   simp only [cond_true] at h
   obtain ⟨⟨cs', l⟩, hp, hq⟩ := Option.map_eq_some_iff.1 h
   simp only [Prod.mk.injEq] at hq
   obtain ⟨rfl, rfl⟩ := hq
   have hvs := toBytes_spec flat cs' l vs hp hc hr
   refine .inr ⟨b, _, (0, 0), h1, h2, h3, by simp [h4], FrOk.zero _, by simp [hvs], fun i hi => ?_⟩
   subst hvs
   simp only [List.getElem?_toArray]
   rw [List.getElem?_append_left (by simpa using hi), List.getElem?_map, List.getElem?_eq_getElem hi]
   simp [List.getD, hi]
 | false =>
   rw [hby] at h
   simp only [cond_false] at h
   cases hone : flat.all AV.one with
   | false => rw [hone] at h; cases h
   | true =>
   rw [hone] at h
   simp only [Bool.not_true, cond_false] at h
   have h1c := all_one hone hr
   cases hp : toIVs flat with
   | none =>
     rw [hp] at h
     simp only [Option.some.injEq, Prod.mk.injEq] at h
     obtain ⟨rfl, rfl⟩ := h
     subst hrest
     exact ⟨b, vs, h1, h2, by simpa using h3, hr⟩
   | some l =>
   rw [hp] at h
   simp only [Option.some.injEq, Prod.mk.injEq] at h
   obtain ⟨rfl, rfl⟩ := h
   have hiv := toIVs_spec flat l vs hp hr
   refine .inr ⟨b, _, (0, 0), h1, h2, h3, by simp [h4], FrOk.zero _, by simp [hl], fun i hi => ?_⟩
   have hfit : i * de.size + de.size ≤ len * de.size := by
    rw [← Nat.succ_mul]
    exact Nat.mul_le_mul_right _ hi
   refine ⟨(vs.drop (i * de.size)).take de.size, ?_, ?_, fun v hv => h1c v (List.mem_of_mem_drop (List.mem_of_mem_take hv)), fun j u hu => ?_⟩
   ·cases hq1 : Nat.beq len 1 with
    | true =>
      have := Nat.eq_of_beq_eq_true hq1
      subst this
      have : i = 0 := by omega
      subst this
      simp only [cond_true, Nat.zero_mul, List.drop_zero]
      have hlen : vs.take de.size = vs := List.take_of_length_le (by omega)
      rw [hlen]
      exact hiv
    | false =>
      simp only [cond_false]
      exact Rs_take _ _ _ (Rs_drop _ _ _ hiv)
   ·rw [List.length_take, List.length_drop]; omega
   ·rw [List.getElem?_take] at hu
    split at hu
    ·rename_i hj
     rw [List.getElem?_drop] at hu
     have : i * de.size + j < vs.length := by omega
     simp [List.getElem?_append_left this, hu]
    ·cases hu
theorem zeroA_spec {d : TD} {cs : List AV} (h : zeroA d = some cs) : ∃ z, d.zero = some z ∧ cs = z.cells.toList.map fun x => AV.iv (.v x) := by
 unfold zeroA at h
 split at h
 ·rename_i z hz
  injection h with h
  exact ⟨z, hz, h.symm⟩
 ·cases h
theorem Rs_vals (l : List Value) : AV.Rs ρ ι (l.map fun x => AV.iv (.v x)) l := by
 induction l with
 | nil => simp [AV.Rs]
 | cons y ys ih => simp only [List.map_cons, AV.Rs, AV.R, IV.R]; exact ⟨_, _, rfl, rfl, ih⟩
theorem Rs_append {a b : List AV} {vs us : List Value} (h : AV.Rs ρ ι a vs) (h' : AV.Rs ρ ι b us) : AV.Rs ρ ι (a ++ b) (vs ++ us) := by
 induction a generalizing vs with
 | nil => simp only [AV.Rs] at h; subst h; exact h'
 | cons x xs ih =>
   simp only [AV.Rs] at h
   obtain ⟨u, us', rfl, r, rs⟩ := h
   simp only [List.cons_append, AV.Rs]
   exact ⟨_, _, rfl, r, ih rs⟩
def repV (z : List Value) : Nat → List Value
 | 0 => []
 | n + 1 => z ++ repV z n
theorem repA_ok {z : List AV} {zs : List Value} (h : AV.Rs ρ ι z zs) : ∀ n, AV.Rs ρ ι (repA z n) (repV zs n)
 | 0 => by simp [repA, repV, AV.Rs]
 | n + 1 => Rs_append h (repA_ok h n)
theorem repV_len (z : List Value) : ∀ n, (repV z n).length = n * z.length
 | 0 => by simp [repV]
 | n + 1 => by simp only [repV, List.length_append, repV_len z n, Nat.succ_mul]; omega
theorem repV_get (z : List Value) (hz : 0 < z.length) : ∀ (n i : Nat), i < n * z.length → (repV z n)[i]? = z[i % z.length]?
 | 0, i, h => by simp at h
 | n + 1, i, h => by
   simp only [repV]
   by_cases hi : i < z.length
   ·rw [List.getElem?_append_left hi, Nat.mod_eq_of_lt hi]
   ·have h2 : i - z.length < n * z.length := by rw [Nat.add_mul, Nat.one_mul] at h; omega
    rw [List.getElem?_append_right (by omega), repV_get z hz n (i - z.length) h2, ← Nat.mod_eq_sub_mod (by omega)]
theorem zeros_eq (z : Array Value) (n : Nat) (hz : 0 < z.size) : (Array.range (n * z.size)).map (fun i => z[i % z.size]!) = (repV z.toList n).toArray := by
 apply Array.ext'
 apply List.ext_getElem?
 intro i
 simp only [Array.toList_map, Array.toList_range, List.getElem?_map]
 have hz' : 0 < z.toList.length := by simpa using hz
 by_cases hi : i < n * z.size
 ·rw [List.getElem?_range hi]
  have := repV_get z.toList hz' n i (by simpa using hi)
  simp only [Array.length_toList] at this
  rw [this]
  have hlt : i % z.size < z.size := Nat.mod_lt _ hz
  simp [hlt, getElem!_pos]
 ·rw [List.getElem?_eq_none (by simpa using hi), List.getElem?_eq_none (by rw [repV_len]; simpa using hi)]
  rfl
theorem run_newRow (e : TypeId) (cells : Array Value) : (newRow e cells).run P w = .ok ⟨w.heap.size, 0, none⟩ (w.alloc (.cells cells e)) := rfl
theorem layA_len : ∀ (xs : List AV) (cs : List AV) (off : Nat), (layA cs off xs).length = cs.length
 | [], cs, off => rfl
 | x :: xs, cs, off => by simp only [layA]; rw [layA_len xs]; simp
theorem fillA_len (place : Nat → Option (Nat × Nat)) : ∀ (ps : List (Nat × AV)) (cs cs' : List AV), fillA place cs ps = some cs' → cs'.length = cs.length
 | [], cs, cs', h => by simp only [fillA, Option.some.injEq] at h; rw [h]
 | p :: ps, cs, cs', h => by
   unfold fillA at h
   split at h
   ·rename_i off size xs _ _
    cases hb : (Nat.beq xs.length size && Nat.ble (off + xs.length) cs.length) with
    | false => rw [hb] at h; cases h
    | true =>
      rw [hb] at h
      simp only [cond_true] at h
      rw [fillA_len place ps _ _ h, layA_len]
   ·cases h
theorem repA_len (z : List AV) : ∀ n, (repA z n).length = n * z.length
 | 0 => by simp [repA]
 | n + 1 => by simp only [repA, List.length_append, repA_len z n, Nat.succ_mul]; omega
def bytesCap (w : World) (l : List UInt8) (e : TypeId) : Nat := (Question.appendCap l.length 0 e).cut (w.tape w.drawn (.appendCap l.length 0 e))
theorem strToBytes (hS : SR ρ ι H w) (e : TypeId) (l : List UInt8) (hl : l.length ≤ maxLen) : ∃ w', (Conv.stringToBytes e ⟨l.toArray⟩).run P w = .ok (.slice (some ⟨w.heap.size, 0, none⟩) l.length (bytesCap w l e)) w' ∧
 SR (ρ.upd H.next (one1 w.heap.size (bytesCap w l e))) ι (H.add (.brow e l)) w' ∧ Went ρ ι H w (ρ.upd H.next (one1 w.heap.size (bytesCap w l e))) ι (H.add (.brow e l)) w' ∧
 (AV.row H.next 1 0 l.length).R (ρ.upd H.next (one1 w.heap.size (bytesCap w l e))) ι (.slice (some ⟨w.heap.size, 0, none⟩) l.length (bytesCap w l e)) ∧ Touch (fun _ => False) w w' := by
 have hsz : (⟨l.toArray⟩ : ByteArray).size = l.length := by simp [ByteArray.size]
 have hc1 : l.length ≤ bytesCap w l e := by simp [bytesCap, Question.cut]
 have hc2 : bytesCap w l e ≤ maxLen := by
  have hlt := Nat.mod_lt (w.tape w.drawn (.appendCap l.length 0 e)) (show 0 < 2 ^ 63 - l.length by simp only [maxLen] at hl; omega)
  simp only [bytesCap, Question.cut, maxLen] at hl ⊢
  omega
 generalize hcap : bytesCap w l e = c at hc1 hc2 ⊢
 let arr : Array Value := (l.toArray.map fun b => Value.int .u8 (b.toNat : Int)) ++ Array.replicate (c - l.length) (.int .u8 0)
 have has : arr.size = c := by simp [arr]; omega
 let w' : World := { w.drew with heap := w.heap.push (.cells arr e (c, c + 1)) }
 have hlast : w'.heap[w.heap.size]? = some (.cells arr e (c, c + 1)) := by simp [w']
 have ht : Touch (fun _ => False) w w' := ⟨rfl, rfl, rfl, by simp [w'], fun k hk _ => by simp only [w']; rw [Array.getElem?_push, if_neg (by omega)]⟩
 obtain ⟨s1, s2⟩ := hS.add (.brow e l) (one1 w.heap.size c) ht (fun k hk => by have : k = w.heap.size := hk; subst this; exact ⟨Nat.le_refl _, by simp [w']⟩) (.inr ⟨w.heap.size, arr, (c, c + 1), rfl, fun _ => Iff.rfl, hlast, has, ⟨by simp, fun j hj => by simp; omega⟩, by omega, fun i hi => by
  simp only [arr]
  rw [Array.getElem?_append_left (by simpa using hi)]
  simp [hi, List.getD]⟩)
 refine ⟨w', ?_, s1, s2, ?_, ht⟩
 ·have hcap' : (Question.appendCap l.length 0 e).cut (w.tape w.drawn (.appendCap l.length 0 e)) = c := hcap
  have hfr : ((w.drew.alloc (.cells arr e)).freeze ⟨w.heap.size, c, none⟩ 1) = w' := by
   have e1 : (w.heap.push (.cells arr e)).modify w.heap.size (fun x => match x with
    | .cells c1 elem (lo, hi) => .cells c1 elem (if lo == hi then (c, c + 1) else (min lo c, max hi (c + 1)))
    | o => o) = w.heap.push (.cells arr e (c, c + 1)) := by
    apply Array.ext_getElem?
    intro i
    rw [Array.getElem?_modify, Array.getElem?_push, Array.getElem?_push]
    by_cases hi : w.heap.size = i
    ·subst hi; simp
    ·rw [if_neg hi, if_neg (fun e => hi e.symm), if_neg (fun e => hi e.symm)]
   simp only [World.freeze, World.alloc, World.drew, w']
   rw [if_neg (by decide)]
   exact congrArg (fun h => ({ w with heap := h, drawn := w.drawn + 1 } : World)) e1
  simp only [Conv.stringToBytes, hsz, Sem.run_bind, run_choose, Question.forced, Bool.false_eq_true, if_false, Result.andThen_ok, hcap', run_newRow, World.drew_eq, markStringish, run_shape]
  have hsh : (w.drew.alloc (.cells arr e)).shape? w.heap.size = some (e, c) := by
   have h1 : (w.drew.alloc (.cells arr e)).heap[w.heap.size]? = some (.cells arr e) := heap_alloc_new w.drew _
   simp only [World.shape?, h1, has]
  have harr : (Array.map (fun b : UInt8 => Value.int .u8 (b.toNat : Int)) l.toArray ++ Array.replicate (c - l.length) (.int .u8 0)) = arr := rfl
  simp only [harr, World.size_drew, hsh, run_freeze, hfr, Result.andThen_ok, Sem.run_pure]
 ·simp only [AV.R]
  exact ⟨_, c, rfl, hc1, hc2, fun _ => ⟨_, _, Rho.upd_same _ _ _, rfl, by simp, by simp [one1]⟩⟩
theorem xop_sound (hT : TOk P T) (hby : TBytes T) (hS : SR ρ ι H w) {g : Operand → AV} {ev : Operand → Value} (hg : ∀ x, (g x).R ρ ι (ev x)) (o : Oper) {cs : List Cnd} {c : Chunk} {f : Nat → AV} (h : xop T g o.op = some (cs, c, f)) (hc : ands cs True) :
 XOk P w (execOp ev o) ρ ι H c f := by
 obtain ⟨dst, op, type, pos, after, guard⟩ := o
 have hfr := hS.fresh H.next (Nat.le_refl _)
 cases op <;> simp only [xop] at h <;> try cases h
 case alloc e =>
  split at h
  ·rename_i d hd
   obtain ⟨zs, hz, hq⟩ := Option.map_eq_some_iff.1 h
   simp only [Prod.mk.injEq] at hq
   obtain ⟨rfl, rfl, rfl⟩ := hq
   obtain ⟨z, hz1, rfl⟩ := zeroA_spec hz
   have hzr := run_zero' hT hd hz1 w
   obtain ⟨h1, h2⟩ := hS.alloc_cells e _ _ (Rs_vals z.cells.toList)
   refine ⟨_, _, _, ?_, h1, h2, upd_ptr _, touch_alloc _ _, trivial, _, rfl⟩
   simp [execOp, Instr.alloc, hzr, newVar, newRow]
  ·cases h
 case box e x =>
  obtain ⟨zs, hz, hq⟩ := Option.map_eq_some_iff.1 h
  simp only [Prod.mk.injEq] at hq
  obtain ⟨rfl, rfl, rfl⟩ := hq
  obtain ⟨vs, he, hr⟩ := cells_spec (hg x) hz
  obtain ⟨h1, h2⟩ := hS.alloc_cells e _ _ hr
  refine ⟨_, _, _, ?_, h1, h2, upd_ptr _, touch_alloc _ _, trivial, _, rfl⟩
  simp [execOp, Instr.box, newVar, newRow, he]
 case buildSlice t len ps =>
  split at h
  ·rename_i e de he
   split at h
   ·rename_i z hz
    split at h
    ·rename_i flat hf
     cases hb : (Nat.beq z.length de.size && !(Nat.beq de.size 0) && Nat.ble (len * de.size) 1000) with
     | false => rw [hb] at h; cases h
     | true =>
       rw [hb] at h
       simp only [cond_true] at h
       obtain ⟨⟨cs', c'⟩, hp, hq⟩ := Option.map_eq_some_iff.1 h
       simp only [Prod.mk.injEq] at hq
       obtain ⟨rfl, rfl, rfl⟩ := hq
       simp only [Bool.and_eq_true, Bool.not_eq_true'] at hb
       obtain ⟨⟨b1, b2⟩, b3⟩ := hb
       have hzl := Nat.eq_of_beq_eq_true b1
       have hz0 : de.size ≠ 0 := fun e => by rw [e] at b2; simp at b2
       have hsm := Nat.le_of_ble_eq_true b3
       obtain ⟨hu, hde⟩ := elemOfT_spec hT he
       obtain ⟨zv, hz1, rfl⟩ := zeroA_spec hz
       have hzr := run_zero' hT hde hz1 w
       have hsz := run_sizeOf' hT hde w
       have hzc : zv.cells.size = de.size := by simpa using hzl
       have hps := PartsR_map (ρ := ρ) (ι := ι) hg ps.toList
       obtain ⟨vs, g1, g2⟩ := fillA_ok _ _ _ _ _ _ hps (repA_ok (Rs_vals zv.cells.toList) len) hf
       have hvl : vs.length = len * de.size := by
        rw [Rs_lenA _ _ g2, fillA_len _ _ _ _ hf, repA_len]
        simp [hzc]
       have hbyte := hby e de hde
       obtain ⟨s1, s2⟩ := hS.alloc (.cells vs.toArray e) vs.length c' (rowOf_ok e de len flat vs hp hc (AV.Rs_mono (Rho.le_upd _ hfr) (Imm.le.refl _) _ _ g2) hvl (fun hb => (hbyte hb).1) _ w.heap.size rfl (fun _ => Iff.rfl) _ [] (by simpa using heap_alloc_new w _) (by simp [one1]) rfl)
       refine ⟨.slice (some ⟨w.heap.size, 0, none⟩) len len, _, _, ?_, s1, s2, ?_, touch_alloc _ _, ?rl, _, rfl⟩
       case rl =>
        have hfl : flat.length = len * de.size := by rw [fillA_len _ _ _ _ hf, repA_len]; simp [hzc]
        unfold rowOf at hp
        cases hby' : isByte de with
        | true =>
          rw [hby'] at hp
          simp only [cond_true] at hp
          obtain ⟨⟨cs', l⟩, hp', hq'⟩ := Option.map_eq_some_iff.1 hp
          simp only [Prod.mk.injEq] at hq'
          obtain ⟨rfl, rfl⟩ := hq'
          have h1 := (hbyte hby').1
          have h2 : l.length = flat.length := toBytes_len _ _ _ hp'
          show (fun h => AV.row h de.size 0 len) = fun h => AV.row h 1 0 l.length
          rw [h1, h2, hfl, h1, Nat.mul_one]
        | false =>
          rw [hby'] at hp
          simp only [cond_false] at hp
          cases hone : flat.all AV.one with
          | false => rw [hone] at hp; cases hp
          | true =>
            rw [hone] at hp
            simp only [Bool.not_true, cond_false] at hp
            cases hiv : toIVs flat with
            | none =>
              rw [hiv] at hp
              simp only [Option.some.injEq, Prod.mk.injEq] at hp
              obtain ⟨rfl, rfl⟩ := hp
              exact trivial
            | some l =>
              rw [hiv] at hp
              simp only [Option.some.injEq, Prod.mk.injEq] at hp
              obtain ⟨rfl, rfl⟩ := hp
              rfl
       ·have hzz : (Array.range (len * de.size)).map (fun x => zv.cells[x % zv.cells.size]!) = (repV zv.cells.toList len).toArray := by
         rw [← hzc]; exact zeros_eq zv.cells len (by omega)
        have hno : ¬ (16777216 < len * de.size) := by omega
        have g1' : Instr.fill (fun i => some (i * de.size, de.size)) (repV zv.cells.toList len).toArray (ps.toList.map fun p => (p.1, ev p.2)) = some vs.toArray := g1
        by_cases hl0 : len = 0
        ·subst hl0
         have g2' : Instr.fill (fun i => some (i * de.size, de.size)) #[] (ps.toList.map fun p => (p.1, ev p.2)) = some vs.toArray := g1'
         have hr0 : (Array.map (fun _ => (default : Value)) (Array.range 0)) = #[] := by simp [Array.range]
         simp [execOp, Instr.buildSlice, run_underlying hu, hsz, newRow, g2', hr0]
        ·have hne : ¬ (len * de.size = 0) := by
          intro h0
          rcases Nat.mul_eq_zero.1 h0 with h0 | h0
          ·exact hl0 h0
          ·exact hz0 h0
         have hrun : (Instr.buildSlice t len (ps.map fun p => (p.1, ev p.2))).run P w = .ok (.slice (some ⟨w.heap.size, 0, none⟩) len len) (w.alloc (.cells vs.toArray e)) := by
          have hno' : ¬ (len * de.size > 2 ^ 24) := by simpa using hno
          simp only [Instr.buildSlice, Sem.run_bind, run_underlying hu, Result.andThen_ok, hsz, if_neg hno', if_neg hne, hzr, Sem.run_pure, Array.toList_map, hzz, g1', run_newRow]
         simp [execOp, hrun]
       ·simp only [AV.R]
        refine ⟨_, len, rfl, Nat.le_refl _, ?_, fun _ => ⟨_, _, Rho.upd_same _ _ _, rfl, by simp, by simp [one1, hvl]⟩⟩
        unfold maxLen
        have : len ≤ len * de.size := Nat.le_mul_of_pos_right _ (by omega)
        omega
    ·cases h
   ·cases h
  ·cases h
 case makeMap t r =>
  cases r with
  | some r => cases h
  | none =>
    simp only at h
    split at h
    ·rename_i d hd
     split at h
     ·rename_i kt et hk
      split at h
      ·rename_i kk hkk
       simp only [Option.some.injEq, Prod.mk.injEq] at h
       obtain ⟨rfl, rfl, rfl⟩ := h
       obtain ⟨s1, s2⟩ := hS.alloc (.map #[] 0) 0 (.map kk []) ⟨w.heap.size, #[], 0, rfl, fun _ => Iff.rfl, heap_alloc_new w _, ⟨fun p hp => by simp at hp, ⟨[], List.Perm.refl _, rfl⟩, by simp, by simp, fun e he => by simp at he⟩⟩
       refine ⟨.map (some w.heap.size), _, _, ?_, s1, s2, ?_, touch_alloc _ _, trivial, _, rfl⟩
       ·simp [execOp, Instr.makeMap]
       ·simp only [AV.R]
        exact ⟨_, _, Rho.upd_same _ _ _, rfl, rfl⟩
      ·cases h
     ·cases h
    ·cases h
 case makeSlice t l c0 =>
  split at h
  ·rename_i e de n m he hl hm
   split at h
   ·rename_i z hz
    cases hb : (Nat.beq z.length de.size && !(Nat.beq de.size 0)) with
    | false => rw [hb] at h; cases h
    | true =>
      rw [hb] at h
      simp only [cond_true] at h
      simp only [Bool.and_eq_true, Bool.not_eq_true'] at hb
      obtain ⟨b1, b2⟩ := hb
      have hzl := Nat.eq_of_beq_eq_true b1
      have hz0 : de.size ≠ 0 := fun e => by rw [e] at b2; simp at b2
      obtain ⟨hu, hde⟩ := elemOfT_spec hT he
      obtain ⟨zv, hz1, rfl⟩ := zeroA_spec hz
      have hzr := run_zero' hT hde hz1 w
      have hsz := run_sizeOf' hT hde w
      obtain ⟨i, hi1, hi2, hi3, hi4⟩ := td_info hT hde
      have hzc : zv.cells.size = de.size := by simpa using hzl
      have el : ev l = .int .i64 n := by have := hg l; rw [hl] at this; simpa [AV.R, IV.R] using this
      have em : ev c0 = .int .i64 m := by have := hg c0; rw [hm] at this; simpa [AV.R, IV.R] using this
      have run : 0 ≤ n → n ≤ m → m * de.bytes ≤ 140737488355328 → m ≤ 140737488355328 →
       (execOp ev ⟨dst, .makeSlice t l c0, type, pos, after, guard⟩).run P w = .ok (.value (.slice (some ⟨w.heap.size, 0, none⟩) n.toNat m.toNat)) (w.alloc (.cells (repV zv.cells.toList m.toNat).toArray e)) := by
       intro h0 h1 h2 h3
       have e1 : IntKind.i64.wrap n = n := IntWalk.i64_in n (by omega)
       have e2 : IntKind.i64.wrap m = m := IntWalk.i64_in m (by omega)
       have hzz : (Array.range (m.toNat * de.size)).map (fun x => zv.cells[x % zv.cells.size]!) = (repV zv.cells.toList m.toNat).toArray := by
        rw [← hzc]; exact zeros_eq zv.cells m.toNat (by omega)
       have c1 : ¬ (m < 0 ∨ 281474976710656 < (de.bytes : Int) * m) := by
        rw [Int.mul_comm]; omega
       have c2 : ¬ n < 0 := by omega
       have c3 : ¬ m < n := by omega
       have c4 : ¬ m < 0 := by omega
       have c5 : ¬ 281474976710656 < (de.bytes : Int) * m := by rw [Int.mul_comm]; omega
       by_cases hm0 : m = 0
       ·subst hm0
        have hn0 : n = 0 := by omega
        subst hn0
        have hr0 : (Array.map (fun _ => (default : Value)) (Array.range 0)) = #[] := by simp [Array.range]
        simp [execOp, el, em, Instr.makeSlice, run_underlying hu, asInt, asIntOf, typeInfo, hi1, e1, sizeOf, newRow, repV, hr0]
       ·have hmt : ¬ (m.toNat = 0) := by omega
        have hmt2 : ¬ m ≤ 0 := by omega
        have hne : ¬ (m.toNat * de.size = 0) := fun h0 => by
         rcases Nat.mul_eq_zero.1 h0 with h0 | h0
         ·exact hmt h0
         ·exact hz0 h0
        have hti : (typeInfo e).run P w = .ok i w := by simp [typeInfo, hi1]
        have hal : (askRoom (m.toNat * de.bytes)).run P w = .ok () w := run_askRoom ..
        have hcond : ((m < 0 || decide ((de.bytes : Int) * m > 2 ^ 48)) || decide (n < 0) || decide (n > m)) = false := by simp [c2, c3, c4, c5]
        have hrun : (Instr.makeSlice t (.int .i64 n) (.int .i64 m)).run P w = .ok (.slice (some ⟨w.heap.size, 0, none⟩) n.toNat m.toNat) (w.alloc (.cells (repV zv.cells.toList m.toNat).toArray e)) := by
         simp only [Instr.makeSlice, Sem.run_bind, run_underlying hu, Result.andThen_ok, asInt, asIntOf, Sem.run_pure, hti, hi3, e1, e2, hcond, Bool.false_eq_true, if_false, hal, hsz, if_neg hne, hzr, hzz, run_newRow]
        simp [execOp, el, em, hrun]
      cases hbt : isByte de with
      | true =>
        rw [hbt] at h
        simp only [cond_true, Option.some.injEq, Prod.mk.injEq] at h
        obtain ⟨rfl, rfl, rfl⟩ := h
        obtain ⟨h0, h1, h2, _⟩ := hc
        obtain ⟨q1, q2, q3⟩ := hby e de hde hbt
        have hzv : zv = .int .u8 0 := by rw [hz1] at q3; injection q3
        subst hzv
        have hrl : (repV (Value.int .u8 0).cells.toList m.toNat).length = m.toNat := by rw [repV_len]; simp [Value.cells]
        obtain ⟨s1, s2⟩ := hS.alloc (.cells (repV (Value.int .u8 0).cells.toList m.toNat).toArray e) m.toNat (.brow e (List.replicate n.toNat 0)) (.inr ⟨w.heap.size, _, (0, 0), rfl, fun _ => Iff.rfl, heap_alloc_new w _, by simpa [one1] using hrl, FrOk.zero _, by simp [hrl]; omega, fun i hi => by
         rw [List.length_replicate] at hi
         rw [List.getElem?_toArray, repV_get _ (by simp [Value.cells]) _ _ (by simp [Value.cells]; omega)]
         simp [Value.cells, List.getD, hi, Nat.mod_one]⟩)
        refine ⟨_, _, _, run h0 h1 (by rw [q2]; omega) h2, s1, s2, ?_, touch_alloc _ _, by simp [rowLen], _, rfl⟩
        simp only [AV.R]
        refine ⟨_, m.toNat, rfl, by omega, by unfold maxLen; omega, fun _ => ⟨_, _, Rho.upd_same _ _ _, rfl, by simp, by simp [one1]⟩⟩
      | false =>
        rw [hbt] at h
        simp only [cond_false] at h
        cases hone : (zv.cells.toList.map fun x => AV.iv (.v x)).all AV.one with
        | false => rw [hone] at h; cases h
        | true =>
        rw [hone] at h
        simp only [Bool.not_true, cond_false] at h
        have h1c := all_one hone (Rs_vals (ρ := ρ) (ι := ι) zv.cells.toList)
        obtain ⟨zi, hzi, hq⟩ := Option.map_eq_some_iff.1 h
        simp only [Prod.mk.injEq] at hq
        obtain ⟨rfl, rfl, rfl⟩ := hq
        obtain ⟨h0, h1, h2, h3, _⟩ := hc
        have hrl : (repV zv.cells.toList m.toNat).length = m.toNat * de.size := by rw [repV_len]; simp [hzc]
        have hiv := toIVs_spec _ _ _ hzi (Rs_vals (ρ := ρ) (ι := ι) zv.cells.toList)
        obtain ⟨s1, s2⟩ := hS.alloc (.cells (repV zv.cells.toList m.toNat).toArray e) (m.toNat * de.size) (.rowc e de.size n.toNat (fun _ => zi)) (.inr ⟨w.heap.size, _, (0, 0), rfl, fun _ => Iff.rfl, heap_alloc_new w _, by simpa [one1] using hrl, FrOk.zero _, by
         have : n.toNat * de.size ≤ m.toNat * de.size := Nat.mul_le_mul_right _ (by omega)
         simpa [hrl] using this, fun i hi => ⟨zv.cells.toList, hiv, by simpa using hzc, h1c, fun j u hu => by
         have hj : j < de.size := by
          rcases Nat.lt_or_ge j zv.cells.toList.length with h' | h'
          ·simpa [hzc] using h'
          ·rw [List.getElem?_eq_none h'] at hu; cases hu
         have hfit : i * de.size + j < m.toNat * de.size := by
          have : (i + 1) * de.size ≤ m.toNat * de.size := Nat.mul_le_mul_right _ (by omega)
          rw [Nat.add_mul, Nat.one_mul] at this
          omega
         have hzl2 : zv.cells.toList.length = de.size := by simpa using hzc
         rw [List.getElem?_toArray, repV_get _ (by omega) _ _ (by rw [hzl2]; exact hfit), hzl2, Nat.mul_comm, Nat.mul_add_mod, Nat.mod_eq_of_lt hj]
         exact hu⟩⟩)
        refine ⟨_, _, _, run h0 h1 h2 h3, s1, s2, ?_, touch_alloc _ _, rfl, _, rfl⟩
        simp only [AV.R]
        have hle : n.toNat ≤ m.toNat := by omega
        refine ⟨_, m.toNat, rfl, hle, by unfold maxLen; omega, fun _ => ⟨_, _, Rho.upd_same _ _ _, rfl, by simp, by simp [one1]⟩⟩
   ·cases h
  ·cases h
 case convert s d x =>
  split at h
  ·rename_i ts e de l hs he hx
   split at h
   ·rename_i hk1 hk2
    simp only [Option.some.injEq, Prod.mk.injEq] at h
    obtain ⟨rfl, rfl, rfl⟩ := h
    obtain ⟨hu, hde⟩ := elemOfT_spec hT he
    have hus := td_str hT hs hk1
    have hue := td_int hT hde hk2
    have ex : ev x = .string ⟨l.toArray⟩ := by have := hg x; rw [hx] at this; simpa [AV.R, IV.R] using this
    have hsz : (⟨l.toArray⟩ : ByteArray).size = l.length := by simp [ByteArray.size]
    obtain ⟨w', s1, s2, s3, s4, s5⟩ := strToBytes (P := P) hS e l (by have := hc.1; unfold maxLen; omega)
    have hsd : ∃ us, P.underlying s = some us := ⟨_, hus⟩
    refine ⟨_, w', _, ?_, s2, s3, s4, s5, rfl, _, rfl⟩
    have hr : (convert s d (.string ⟨l.toArray⟩)).run P w = .ok (.slice (some ⟨w.heap.size, 0, none⟩) l.length (bytesCap w l e)) w' := by
     rw [← s1]
     simp [convert, run_underlying hus, run_underlying hu, run_underlying hue]
    simp [execOp, ex, hr]
   ·cases h
  ·cases h
theorem SR.addImm {w' : World} (hS : SR ρ ι H w) (ht : Touch (fun _ => False) w w') (b : Nat) (hb : w.heap.size ≤ b) (g : Nat → Option Value) (hg : ∀ o v, g o = some v → w'.cell? ⟨b, o, none⟩ = some v ∧ v.oneCell' = true) :
 Imm.le ι (fun b' o => if b' = b then g o else ι b' o) ∧ SR ρ (fun b' o => if b' = b then g o else ι b' o) H w' ∧ Went ρ ι H w ρ (fun b' o => if b' = b then g o else ι b' o) H w' := by
 have keepB : ∀ k, k < w.heap.size → w'.heap[k]? = w.heap[k]? := fun k hk => ht.block k hk fun f => f.elim
 have hlt : ∀ b' o v, ι b' o = some v → b' < w.heap.size := fun b' o v hi => World.block_lt_of_cell? w _ (hS.imm b' o v hi)
 have hle : Imm.le ι (fun b' o => if b' = b then g o else ι b' o) := fun b' o v hi => by
  by_cases e : b' = b
  ·have := hlt b' o v hi; omega
  ·simpa [e] using hi
 refine ⟨hle, ⟨fun b' o v hi => ?_, fun b' o v hi => ?_, fun p hp => ?_, hS.fresh, hS.nodup, hS.apart, fun p hp x hx k o v hk hi => ?_, fun p hp x hx k hk => Nat.lt_of_lt_of_le (hS.lt p hp x hx k hk) ht.size⟩, ⟨⟨ht.os, ht.tape, ht.output, ht.size, fun k hk _ => keepB k hk⟩, fun _ h => .inl h, hle, fun b' o v hi => ?_, Rho.le.refl _⟩⟩
 ·by_cases e : b' = b
  ·subst e; exact (hg o v (by simpa using hi)).1
  ·have hi' : ι b' o = some v := by simpa [e] using hi
   have h1 := hS.imm b' o v hi'
   rw [← h1]
   exact World.cell?_of_block (keepB b' (hlt b' o v hi'))
 ·by_cases e : b' = b
  ·subst e; exact (hg o v (by simpa using hi)).2
  ·exact hS.one b' o v (by simpa [e] using hi)
 ·obtain ⟨u, hu, r⟩ := hS.rel p hp
  exact ⟨u, hu, r.keep (Rho.le.refl _) hle fun k hk => keepB k (hS.lt p hp u hu k hk)⟩
 ·by_cases e : k = b
  ·subst e; have := hS.lt p hp x hx k hk; omega
  ·exact hS.iapart p hp x hx k o v hk (by simpa [e] using hi)
 ·by_cases e : b' = b
  ·subst e; exact .inr (.inr hb)
  ·exact .inl (by simpa [e] using hi)
theorem SR.freeze {ρ : Rho} {ι : Imm} {H : AH} {w : World} (hS : SR ρ ι H w) {h b : Nat} {c : Chunk} {hv : HV} (hc : H.get h = some c) (hr : ρ h = some hv) (hb : hv.foot b) (g : Nat → Option Value)
 (hg : ∀ o v, g o = some v → w.cell? ⟨b, o, none⟩ = some v ∧ v.oneCell' = true) :
 Imm.le ι (fun b' o => if b' = b then g o else ι b' o) ∧ SR ρ (fun b' o => if b' = b then g o else ι b' o) (H.del h) w ∧ Went ρ ι H w ρ (fun b' o => if b' = b then g o else ι b' o) (H.del h) w := by
 have hm := AH.get_mem hc
 have hle : Imm.le ι (fun b' o => if b' = b then g o else ι b' o) := fun b' o v hi => by
  by_cases e : b' = b
  ·subst e; exact absurd hi (hS.iapart _ hm hv hr b' o v hb)
  ·simpa [e] using hi
 refine ⟨hle, ⟨fun b' o v hi => ?_, fun b' o v hi => ?_, fun p hp => ?_, hS.fresh, AH.nodup_del h hS.nodup, fun p hp q hq => hS.apart p (AH.mem_del p hp) q (AH.mem_del q hq), fun p hp x hx k o v hk hi => ?_, fun p hp => hS.lt p (AH.mem_del p hp)⟩, ⟨Touch.refl _ _, fun _ ⟨p, hp, x⟩ => .inl ⟨p, AH.mem_del p hp, x⟩, hle, fun b' o v hi => ?_, Rho.le.refl _⟩⟩
 ·by_cases e : b' = b
  ·subst e; exact (hg o v (by simpa using hi)).1
  ·exact hS.imm b' o v (by simpa [e] using hi)
 ·by_cases e : b' = b
  ·subst e; exact (hg o v (by simpa using hi)).2
  ·exact hS.one b' o v (by simpa [e] using hi)
 ·obtain ⟨u, hu, r⟩ := hS.rel p (AH.mem_del p hp)
  exact ⟨u, hu, r.keep (Rho.le.refl _) hle fun _ _ => rfl⟩
 ·by_cases e : k = b
  ·subst e; exact hS.apart p (AH.mem_del p hp) _ hm (AH.key_del hS.nodup p hp) x hv hx hr k hk hb
  ·exact hS.iapart p (AH.mem_del p hp) x hx k o v hk (by simpa [e] using hi)
 ·by_cases e : b' = b
  ·subst e; exact .inr (.inl ⟨_, hm, hv, hr, hb⟩)
  ·exact .inl (by simpa [e] using hi)
def frzV : Chunk → Option AV
 | .brow _ l => some (.iv (.bs l))
 | .rowc _ sz n f => some (.iv (.sl sz n f))
 | .cells _ cs => (toIVs cs).map fun l => .iv (.pp l)
 | _ => none
theorem cellOf {w : World} {b : Nat} {arr : Array Value} {e : TypeId} {fr : Nat × Nat} (hb : w.heap[b]? = some (.cells arr e fr)) {o : Nat} {v : Value} (hv : arr[o]? = some v) : w.cell? ⟨b, o, none⟩ = some v := by
 simp [World.cell?, hb, hv]
theorem XOk.frz {s : Sem Next} {c : Chunk} {f : Nat → AV} (hS : SR ρ ι H w) (h : XOk P w s ρ ι H c f) {r : AV} (hr : frzV c = some r) (hcell : ∀ e cs, c = .cells e cs → (cs.all AV.one = true) ∧ f = fun h => .ptr h 0) :
 ∃ v w' ι', s.run P w = .ok (.value v) w' ∧ SR ρ ι' H w' ∧ Went ρ ι H w ρ ι' H w' ∧ r.R ρ ι' v := by
 obtain ⟨v, w', ρ', h1, h2, h3, h4, h5, h6, hu0, rfl⟩ := h
 have hn : (H.add c).get H.next = some c ∨ True := .inr trivial
 have hmem : (H.next, c) ∈ (H.add c).ch := by unfold AH.add; simp
 obtain ⟨hv, e1, e2⟩ := h2.rel _ hmem
 have hfoot : ∀ k, hv.foot k → w.heap.size ≤ k := fun k hk => by
  rcases h3.grow k ⟨_, hmem, hv, e1, hk⟩ with ⟨p, hp, u, hu, hk2⟩ | h
  ·have hne : p.1 ≠ H.next := fun e => by
    rw [e, hS.fresh H.next (Nat.le_refl _)] at hu; cases hu
   have hp' : p ∈ (H.add c).ch := by unfold AH.add; exact List.mem_append_left _ hp
   exact absurd hk (h2.apart p hp' _ hmem hne u hv (Rho.upd_old (hS.fresh H.next (Nat.le_refl _)) hu) e1 k hk2)
  ·exact h
 cases c with
 | brow e l =>
   simp only [frzV, Option.some.injEq] at hr
   subst hr
   simp only [rowLen] at h6
   subst h6
   rcases e2 with ⟨g1, g2, _⟩ | ⟨b, arr, fr, g1, g2, g3, g4, g5, g6, g7⟩
   ·subst g2
    obtain ⟨q1, q2, q3⟩ := hS.addImm h5 w.heap.size (Nat.le_refl _) (fun _ => none) (fun o v h => by cases h)
    refine ⟨v, w', _, h1, q2, q3, ?_⟩
    simp only [AV.R, IV.R] at h4 ⊢
    obtain ⟨A, cp, rfl, i2, i3, _⟩ := h4
    exact ⟨A, cp, rfl, i2, i3, fun k hk => by simp at hk⟩
   ·obtain ⟨q1, q2, q3⟩ := hS.addImm h5 b (hfoot b ((g2 b).2 rfl)) (fun o => if o < l.length then some (.int .u8 ((l.getD o 0).toNat : Int)) else none) (fun o v hg => by
     split at hg
     ·rename_i ho
      injection hg with hg
      subst hg
      exact ⟨cellOf g3 (g7 o ho), rfl⟩
     ·cases hg)
    refine ⟨v, w', _, h1, q2, q3, ?_⟩
    simp only [AV.R, IV.R] at h4 ⊢
    obtain ⟨A, cp, rfl, i2, i3, i4⟩ := h4
    refine ⟨A, cp, rfl, i2, i3, fun k hk => ?_⟩
    obtain ⟨hv', b', j1, j2, j3, j4⟩ := i4 (by omega)
    rw [e1] at j1
    injection j1 with j1
    subst j1
    rw [g1] at j2
    injection j2 with j2
    subst j2
    exact ⟨_, j3, rfl, by simp [hk]⟩
 | rowc e sz n fn =>
   simp only [frzV, Option.some.injEq] at hr
   subst hr
   simp only [rowLen] at h6
   subst h6
   rcases e2 with ⟨g1, g2, _⟩ | ⟨b, arr, fr, g1, g2, g3, g4, g5, g6, g7⟩
   ·subst g2
    obtain ⟨q1, q2, q3⟩ := hS.addImm h5 w.heap.size (Nat.le_refl _) (fun _ => none) (fun o v h => by cases h)
    refine ⟨v, w', _, h1, q2, q3, ?_⟩
    simp only [AV.R, IV.R] at h4 ⊢
    obtain ⟨A, cp, rfl, i2, i3, _⟩ := h4
    exact ⟨A, cp, rfl, i2, i3, fun k hk => by omega⟩
   ·obtain ⟨q1, q2, q3⟩ := hS.addImm h5 b (hfoot b ((g2 b).2 rfl)) (fun o => if o < n * sz then arr[o]? else none) (fun o v hg => by
     split at hg
     ·rename_i ho
      refine ⟨cellOf g3 hg, ?_⟩
      have hsz : 0 < sz := by
       rcases Nat.eq_zero_or_pos sz with h0 | h0
       ·subst h0; omega
       ·exact h0
      obtain ⟨vs, _, k2, k3, k4⟩ := g7 (o / sz) (by rw [Nat.div_lt_iff_lt_mul hsz]; exact ho)
      have hlt : o % sz < vs.length := by rw [k2]; exact Nat.mod_lt _ hsz
      have h8 := k4 (o % sz) vs[o % sz] (List.getElem?_eq_getElem hlt)
      have h9 : o / sz * sz + o % sz = o := by rw [Nat.mul_comm]; exact Nat.div_add_mod o sz
      rw [h9, hg] at h8
      injection h8 with h8
      rw [h8]
      exact k3 _ (List.getElem_mem hlt)
     ·cases hg)
    refine ⟨v, w', _, h1, q2, q3, ?_⟩
    simp only [AV.R, IV.R] at h4 ⊢
    obtain ⟨A, cp, rfl, i2, i3, i4⟩ := h4
    refine ⟨A, cp, rfl, i2, i3, fun k hk => ?_⟩
    obtain ⟨hv', b', j1, j2, j3, j4⟩ := i4 (by omega)
    rw [e1] at j1
    injection j1 with j1
    subst j1
    rw [g1] at j2
    injection j2 with j2
    subst j2
    obtain ⟨vs, k1, k2, k3, k4⟩ := g7 k hk
    refine ⟨_, vs, j3, rfl, IV.Rs_mono q1 _ _ k1, k2, fun j u hj => ?_⟩
    have hj' : j < sz := by rw [← k2]; exact (List.getElem?_eq_some_iff.1 hj).1
    have hlt : k * sz + j < n * sz := by
     have : (k + 1) * sz ≤ n * sz := Nat.mul_le_mul_right sz hk
     rw [Nat.add_mul, Nat.one_mul] at this
     omega
    simp only [Nat.zero_mul, Nat.zero_add, if_true, if_pos hlt]
    exact k4 j u hj
 | cells e cs =>
   obtain ⟨hone, rfl⟩ := hcell e cs rfl
   simp only [frzV] at hr
   obtain ⟨l, hl, rfl⟩ := Option.map_eq_some_iff.1 hr
   obtain ⟨b, vs, g1, g2, g3, g4⟩ := e2
   have hone' := all_one hone g4
   have hiv := toIVs_spec _ _ _ hl g4
   obtain ⟨q1, q2, q3⟩ := hS.addImm h5 b (hfoot b ((g2 b).2 rfl)) (fun o => vs[o]?) (fun o v hg => ⟨cellOf g3 (by simpa using hg), hone' v (List.mem_of_getElem? hg)⟩)
   refine ⟨v, w', _, h1, q2, q3, ?_⟩
   simp only [AV.R, IV.R] at h4 ⊢
   obtain ⟨hv', b', j1, j2, rfl⟩ := h4
   rw [e1] at j1
   injection j1 with j1
   subst j1
   rw [g1] at j2
   injection j2 with j2
   subst j2
   exact ⟨_, vs, rfl, rfl, IV.Rs_mono q1 _ _ hiv, fun j u hj => by simpa using hj⟩
 | _ => cases hr
end
end Go.Proofs.YtgfkepebfaiepaaGreatDoor.Ax
