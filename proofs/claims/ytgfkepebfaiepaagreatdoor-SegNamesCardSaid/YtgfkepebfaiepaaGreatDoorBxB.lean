/-
  Operations of the abstract machine that only read.
-/
import Derived.Test.YtgfkepebfaiepaaGreatDoorGl
namespace Go.Proofs.YtgfkepebfaiepaaGreatDoor.Ax
open Go.RowKit
inductive TK where
 | sl (e : Nat) | st (fs : List (Nat × Nat)) | str | int (k : IntKind) | mp (k e : Nat) | arr (n e : Nat) | ptr (e : Nat) | ifc | bool | other
structure TD where
 k : TK
 size : Nat
 bytes : Nat
 zero : Option Value
 eq : Bool := false
def TK.of : TypeDesc → TK
 | .slice e => .sl e
 | .struct fs => .st (fs.toList.map fun f => (f.offset, f.type))
 | .string => .str
 | .int k => .int k
 | .map k e => .mp k e
 | .array n e => .arr n e
 | .pointer e => .ptr e
 | .interface _ => .ifc
 | .bool => .bool
 | _ => .other
def eqB (P : Program) (t : Nat) : Bool :=
 match P.underlying t with
 | some (.struct fs) => !P.eqGuardType P.depth t && !P.stoodInHeld t && fs.toList.all fun f => !(f.name == "_")
 | some (.array _ _) => !P.eqGuardType P.depth t
 | _ => false
def mkTD (P : Program) (t : Nat) : Option TD :=
 match P.underlying t, P.info? t with
 | some u, some i => some ⟨TK.of u, i.size, i.bytes, i.zero, eqB P t⟩
 | _, _ => none
abbrev TT := List (Nat × TD)
def TT.get : TT → Nat → Option TD
 | [], _ => none
 | p :: ps, t => bif Nat.beq p.1 t then some p.2 else TT.get ps t
def methC (P : Program) (t : Nat) (name : String) : Option Nat := match P.info? t with
 | some i => (match i.methods.find? (·.name == name) with
   | some m => (match m.path.toList, m.func, P.underlying t with
     | [], some (f, true), some (.pointer _) => some f
     | [], some (_, false), some (.pointer _) => none
     | [], some (_, false), some (.interface _) => none
     | [], some (f, false), some _ => some f
     | _, _, _ => none)
   | none => none)
 | none => none
def mget : List (Nat × String × Nat) → Nat → String → Option Nat
 | [], _, _ => none
 | p :: ps, t, n => bif Nat.beq p.1 t && (p.2.1 == n) then some p.2.2 else mget ps t n
structure TOk (P : Program) (T : TT) : Prop where
 t : ∀ p ∈ T, mkTD P p.1 = some p.2
 m : meths.map (fun p => methC P p.1 p.2.1) = meths.map (fun p => some p.2.2)
theorem TOk.meth {P : Program} {T : TT} (h : TOk P T) {t : Nat} {n : String} {f : Nat} (e : mget meths t n = some f) : methC P t n = some f := by
 have h := h.m
 revert h e
 generalize meths = l
 induction l with
 | nil => intro e _; cases e
 | cons p ps ih =>
   intro e h
   simp only [List.map_cons, List.cons.injEq] at h
   unfold mget at e
   cases hb : Nat.beq p.1 t && (p.2.1 == n) with
   | true =>
     rw [hb] at e
     simp only [cond_true, Option.some.injEq] at e
     rw [Bool.and_eq_true] at hb
     rw [← Nat.eq_of_beq_eq_true hb.1, ← eq_of_beq hb.2, ← e]
     exact h.1
   | false =>
     rw [hb] at e
     exact ih e h.2
theorem TOk.of_eq {P : Program} {T : TT} (h : T.map (fun p => mkTD P p.1) = T.map (fun p => some p.2)) (hm : meths.map (fun p => methC P p.1 p.2.1) = meths.map (fun p => some p.2.2) := by kernel_rfl) : TOk P T := by
 refine ⟨?_, hm⟩
 intro p hp
 induction T with
 | nil => cases hp
 | cons q qs ih =>
   simp only [List.map_cons, List.cons.injEq] at h
   rcases List.mem_cons.1 hp with rfl | hp
   ·exact h.1
   ·exact ih h.2 hp
theorem TOk.get {P : Program} {T : TT} (h : TOk P T) {t : Nat} {d : TD} (e : T.get t = some d) : mkTD P t = some d := by
 obtain ⟨h, _⟩ := h
 induction T with
 | nil => cases e
 | cons q qs ih =>
   unfold TT.get at e
   cases hb : Nat.beq q.1 t with
   | true =>
     rw [hb] at e
     simp only [cond_true, Option.some.injEq] at e
     rw [← Nat.eq_of_beq_eq_true hb, ← e]
     exact h q (List.mem_cons_self ..)
   | false =>
     rw [hb] at e
     exact ih e (fun p hp => h p (List.mem_cons_of_mem _ hp))
theorem mkTD_spec {P : Program} {t : Nat} {d : TD} (e : mkTD P t = some d) : ∃ u i, P.underlying t = some u ∧ P.info? t = some i ∧ d = ⟨TK.of u, i.size, i.bytes, i.zero, eqB P t⟩ := by
 unfold mkTD at e
 cases hu : P.underlying t with
 | none => rw [hu] at e; cases e
 | some u =>
   cases hi : P.info? t with
   | none => rw [hu, hi] at e; cases e
   | some i =>
     rw [hu, hi] at e
     injection e with e
     exact ⟨u, i, rfl, rfl, e.symm⟩
def TD.isAgg (d : TD) : Bool := match d.k with | .st _ | .arr .. => true | _ => false
abbrev Env := List (Nat × AV)
def Env.get : Env → Nat → AV
 | [], _ => .junk
 | p :: ps, t => bif Nat.beq p.1 t then p.2 else Env.get ps t
def Env.put : Env → Nat → AV → Env
 | [], d, v => [(d, v)]
 | p :: ps, d, v => if d < p.1 then (d, v) :: p :: ps else if d = p.1 then (d, v) :: ps else p :: Env.put ps d v
theorem Env.put_comm (e : Env) (d d' : Nat) (v v' : AV) (h : d ≠ d') : (e.put d v).put d' v' = (e.put d' v').put d v := by
 induction e with
 | nil =>
   simp only [Env.put]
   rcases Nat.lt_or_ge d d' with h3 | h3
   ·rw [if_neg (by omega), if_neg (by omega), if_pos h3]
   ·rw [if_pos (by omega), if_neg (by omega), if_neg (by omega)]
 | cons p ps ih =>
   simp only [Env.put]
   by_cases a : d < p.1
   ·by_cases b : d' < p.1
    ·rw [if_pos a, if_pos b]
     simp only [Env.put]
     rcases Nat.lt_or_ge d d' with c | c
     ·rw [if_neg (by omega : ¬ d' < d), if_neg (by omega : ¬ d' = d), if_pos b, if_pos c]
     ·rw [if_pos (by omega : d' < d), if_neg (by omega : ¬ d < d'), if_neg h, if_pos a]
    ·rw [if_pos a, if_neg b]
     simp only [Env.put]
     rw [if_neg (by omega : ¬ d' < d), if_neg (by omega : ¬ d' = d), if_neg b]
     by_cases c : d' = p.1
     ·rw [if_pos c]; simp only [Env.put]; rw [if_pos (by omega)]
     ·rw [if_neg c]; simp only [Env.put]; rw [if_pos a]
   ·rw [if_neg a]
    by_cases a2 : d = p.1
    ·rw [if_pos a2]
     by_cases b : d' < p.1
     ·rw [if_pos b]
      simp only [Env.put]
      rw [if_pos (by omega : d' < d), if_neg (by omega : ¬ d < d'), if_neg h, if_neg a, if_pos a2]
     ·rw [if_neg b, if_neg (by omega : ¬ d' = p.1)]
      simp only [Env.put]
      rw [if_neg (by omega : ¬ d' < d), if_neg (by omega : ¬ d' = d), if_neg a, if_pos a2]
    ·rw [if_neg a2]
     by_cases b : d' < p.1
     ·rw [if_pos b]
      simp only [Env.put]
      rw [if_pos b, if_neg (by omega : ¬ d < d'), if_neg h, if_neg a, if_neg a2]
     ·rw [if_neg b]
      by_cases b2 : d' = p.1
      ·rw [if_pos b2]
       simp only [Env.put]
       rw [if_neg b, if_pos b2, if_neg (by omega : ¬ d < d'), if_neg h]
      ·rw [if_neg b2]
       simp only [Env.put]
       rw [if_neg b, if_neg b2, if_neg a, if_neg a2, ih]
theorem Env.get_put_same (e : Env) (d : Nat) (v : AV) : (e.put d v).get d = v := by
 induction e with
 | nil => simp [Env.put, Env.get]
 | cons p ps ih =>
   simp only [Env.put]
   by_cases a : d < p.1
   ·rw [if_pos a]; simp [Env.get]
   ·rw [if_neg a]
    by_cases b : d = p.1
    ·rw [if_pos b]; simp [Env.get]
    ·rw [if_neg b]
     have : Nat.beq p.1 d = false := by rw [Bool.eq_false_iff]; simp; omega
     simp only [Env.get, this, cond_false]
     exact ih
theorem Env.get_put_other (e : Env) (d t : Nat) (v : AV) (h : t ≠ d) : (e.put d v).get t = e.get t := by
 induction e with
 | nil =>
   have : Nat.beq d t = false := by rw [Bool.eq_false_iff]; simp; omega
   simp [Env.put, Env.get, this]
 | cons p ps ih =>
   have e1 : Nat.beq d t = false := by rw [Bool.eq_false_iff]; simp; omega
   simp only [Env.put]
   by_cases a : d < p.1
   ·rw [if_pos a]; simp only [Env.get, e1, cond_false]
   ·rw [if_neg a]
    by_cases b : d = p.1
    ·rw [if_pos b]
     have : Nat.beq p.1 t = false := by rw [← b]; exact e1
     simp only [Env.get, e1, this, cond_false]
    ·rw [if_neg b]
     simp only [Env.get, ih]
def gfind : List (Nat × List IV) → Nat → Option (List IV)
 | [], _ => none
 | p :: ps, g => bif Nat.beq p.1 g then some p.2 else gfind ps g
theorem gfind_mem {l : List (Nat × List IV)} {g : Nat} {cs : List IV} (h : gfind l g = some cs) : (g, cs) ∈ l := by
 induction l with
 | nil => cases h
 | cons p ps ih =>
   unfold gfind at h
   cases hb : Nat.beq p.1 g with
   | true =>
     rw [hb] at h
     have := Nat.eq_of_beq_eq_true hb
     simp only [cond_true, Option.some.injEq] at h
     rw [← this, ← h]
     exact List.mem_cons_self ..
   | false => rw [hb] at h; exact List.mem_cons_of_mem _ (ih h)
def GOk (ι : Imm) : Prop := ∀ p ∈ globs, IV.R ι (.pp p.2) (.pointer (some ⟨p.1, 0, none⟩))
theorem GOk.mono {ι ι' : Imm} (h : GOk ι) (hi : Imm.le ι ι') : GOk ι' := fun p hp => IV.R_mono hi _ _ (h p hp)
structure ER (ρ : Rho) (ι : Imm) (N : Nat) (e : Env) (a : Act) : Prop where
 glob : GOk ι
 size : a.tmps.size = N
 slot : ∀ t, (e.get t).R ρ ι (a.tmps.getD t undef)
theorem ER.mono {ρ ρ' ι ι' N e a} (h : ER ρ ι N e a) (hρ : Rho.le ρ ρ') (hι : Imm.le ι ι') : ER ρ' ι' N e a := ⟨h.glob.mono hι, h.size, fun t => AV.R_mono hρ hι _ _ (h.slot t)⟩
def Env.putd (e : Env) (N : Nat) (dst : Option Tmp) (v : AV) : Env :=
 match dst with
 | none => e
 | some d => if d < N then e.put d v else e
theorem ER.putd {ρ ι N e a} (h : ER ρ ι N e a) (dst : Option Tmp) {v : AV} {u : Value} (hv : v.R ρ ι u) : ER ρ ι N (e.putd N dst v) (a.put dst u) := by
 cases dst with
 | none => exact h
 | some d =>
   unfold Env.putd Act.put
   by_cases hd : d < N
   ·simp only [if_pos hd]
    refine ⟨h.glob, by simp [h.size], fun t => ?_⟩
    by_cases e1 : t = d
    ·subst e1
     rw [Env.get_put_same]
     have : t < a.tmps.size := by rw [h.size]; exact hd
     simpa [this] using hv
    ·rw [Env.get_put_other _ _ _ _ e1]
     have := h.slot t
     simpa [Array.getElem?_setIfInBounds_ne (Ne.symm e1)] using this
   ·simp only [if_neg hd]
    refine ⟨h.glob, by simp [h.size], fun t => ?_⟩
    have hs : a.tmps.setIfInBounds d u = a.tmps := Array.setIfInBounds_eq_of_size_le (by rw [h.size]; exact Nat.le_of_not_lt hd)
    simp only [hs]
    exact h.slot t
def Mk (lo : Nat) (ρ : Rho) (H : AH) (w : World) (ds : List Deferred) : Prop :=
 lo ≤ w.heap.size ∧ ds.Nodup ∧ ∀ d ∈ ds, ∃ D, d = { target := .collected D, args := #[] } ∧ lo ≤ D ∧ w.heap[D]? = some (.deferred (some [])) ∧ ¬ H.foot ρ D
theorem Mk.nil {lo : Nat} {ρ : Rho} {H : AH} {w : World} (h : lo ≤ w.heap.size) : Mk lo ρ H w [] := ⟨h, List.nodup_nil, fun d hd => by cases hd⟩
theorem Mk.went {n lo : Nat} {ρ ρ' : Rho} {ι ι' : Imm} {H H' : AH} {w w' : World} {ds : List Deferred} (h : Mk lo ρ H w ds) (hw : WentB n ρ ι H w ρ' ι' H' w') : Mk lo ρ' H' w' ds :=
 ⟨Nat.le_trans h.1 hw.touch.size, h.2.1, fun d hd => by
  obtain ⟨D, h1, h2, h3, h4⟩ := h.2.2 d hd
  have hlt : D < w.heap.size := (Array.getElem?_eq_some_iff.1 h3).1
  refine ⟨D, h1, h2, (hw.touch.block D hlt h4).trans h3, fun hf => ?_⟩
  rcases hw.grow D hf with h5 | h5
  ·exact h4 h5
  ·omega⟩
theorem AV.R_junk (ρ : Rho) (ι : Imm) (u : Value) : AV.junk.R ρ ι u := by simp [AV.R]
end Go.Proofs.YtgfkepebfaiepaaGreatDoor.Ax
