/-
  Maps as the library's contracts know them; rows that the library hands back.
-/
import Derived.Test.YtpgdbeacmlojcaaGreatBxZa
import Derived.Maps.OwnSet
import Derived.Maps.Range
import Derived.Sort.KeysCollected
namespace Go.Proofs.YtpgdbeacmlojcaaGreat.Ax
open Go.RowKit Go.Maps Go.WideShapes

/-- The keys of a map whose keys are strings. -/
def keysS (m : List (MK × IV)) : List (List UInt8) := m.map fun p => match p.1 with | .s l => l | .i _ _ => []
def heldR (v : Value) : Option (DataW Value × List MemPlace) := some (.held v, [])
theorem zip_keys {ι : Imm} : ∀ {l : List MapEntry} {m : List (MK × IV)}, ZipR (IV.R ι) l m → (∀ p ∈ m, p.1.kind = none) → l.map (·.key) = (keysS m).map fun k => Value.string ⟨k.toArray⟩
  | [], m, h, _ => by simp only [ZipR] at h; subst h; rfl
  | e :: es, m, h, hk => by
    simp only [ZipR] at h
    obtain ⟨p, ps, rfl, h1, _, h2⟩ := h
    have ih := zip_keys h2 fun q hq => hk q (List.mem_cons_of_mem _ hq)
    have hp := hk p (List.mem_cons_self ..)
    obtain ⟨k, x⟩ := p
    cases k with
    | i k n => cases hp
    | s l =>
      simp only [List.map_cons, keysS] at ih ⊢
      rw [ih, h1]
      rfl
theorem keysS_nodup {m : List (MK × IV)} (hk : ∀ p ∈ m, p.1.kind = none) (hn : (m.map (·.1)).Nodup) : (keysS m).Nodup := by
  induction m with
  | nil => exact List.nodup_nil
  | cons p ps ih =>
    simp only [List.map_cons, List.nodup_cons] at hn
    have hp := hk p (List.mem_cons_self ..)
    obtain ⟨k, x⟩ := p
    cases k with
    | i k n => cases hp
    | s l =>
      simp only [keysS, List.map_cons, List.nodup_cons]
      refine ⟨fun hm => hn.1 ?_, ih (fun q hq => hk q (List.mem_cons_of_mem _ hq)) hn.2⟩
      obtain ⟨q, hq, e⟩ := List.mem_map.1 hm
      have hq' := hk q (List.mem_cons_of_mem _ hq)
      refine List.mem_map.2 ⟨q, hq, ?_⟩
      obtain ⟨k', x'⟩ := q
      cases k' with
      | i k n => cases hq'
      | s l' => simp only at e ⊢; rw [e]
theorem MapR.owns {ι : Imm} {P : Program} {k : TypeId} {w : World} {b : Nat} {m : List (MK × IV)} {es : Array MapEntry} {clock : Nat} (hk : P.underlying k = some .string) (h : MapR (IV.R ι) none m es clock) (hb : w.heap[b]? = some (.map es clock)) (hm : m.length ≤ maxLen) (hl : ∀ x ∈ keysS m, x.length ≤ maxLen) :
    ∃ D0 : DataW Value, w.ownsMap P k heldR b es.size D0 ∧ (strKeys D0).Perm (keysS m) ∧ Maps.size D0 = m.length := by
  obtain ⟨l, hp, hz⟩ := h.zip
  have hkeys := zip_keys hz h.kind
  have hlen : es.size = m.length := by
    have := hp.length_eq
    rw [← ZipR.len hz, this]
    simp
  have key : ∀ e ∈ es.toList, ∃ x ∈ keysS m, e.key = .string ⟨x.toArray⟩ := fun e he => by
    have h1 : e.key ∈ l.map (·.key) := List.mem_map_of_mem (hp.mem_iff.2 he)
    rw [hkeys] at h1
    obtain ⟨x, hx, hx2⟩ := List.mem_map.1 h1
    exact ⟨x, hx, hx2.symm⟩
  have rdE : ∀ e ∈ es.toList, ∀ x, e.key = .string ⟨x.toArray⟩ → x ∈ keysS m → Go.WideElems.rd P k heldR e = some (Lit.string x, DataW.held e.val) := fun e he x hx hx2 => by
    have h1 := Go.WideMaps.keyOf_string_mk hk (s := ⟨x.toArray⟩) (by simpa [ByteArray.size] using hl x hx2)
    obtain ⟨ke, ve, be⟩ := e
    simp only at hx
    subst hx
    have := Go.WideElems.rd_mk (P := P) (k := k) (R := heldR) (val := ve) (born := be) h1 (yv := (.held ve, [])) rfl
    simpa using this
  refine ⟨_, ⟨es, clock, hb, ⟨by omega, ⟨h.clock, h.born, ?_⟩, fun e he => ?_⟩, Nat.le_refl _, rfl⟩, ?_, ?_⟩
  · have h1 : (l.map (·.key)).Nodup := by
      rw [hkeys]
      refine List.pairwise_map.2 ((keysS_nodup h.kind h.keys).imp fun hne e => hne ?_)
      simpa using e
    exact (hp.map _).nodup_iff.1 h1
  · obtain ⟨x, hx, hx2⟩ := key e he
    exact ⟨_, rdE e he x hx2 hx⟩
  · show ((es.toList.map (Go.WideElems.rg P k heldR)).foldr DataW.insert [] |>.map fun p => strOf p.1).Perm _
    refine ((sorted_perm _).map _).trans ?_
    rw [List.map_map]
    have e1 : es.toList.map ((fun p : Lit × DataW Value => strOf p.1) ∘ Go.WideElems.rg P k heldR) = es.toList.map fun e => match e.key with | .string s => s.data.toList | _ => [] := by
      refine List.map_congr_left fun e he => ?_
      obtain ⟨x, hx, hx2⟩ := key e he
      simp only [Function.comp_apply, Go.WideElems.rg, rdE e he x hx2 hx, Option.getD_some, strOf, hx2]
    rw [e1]
    have e2 : (l.map fun e : MapEntry => match e.key with | .string s => s.data.toList | _ => []) = keysS m := by
      have : (l.map fun e : MapEntry => match e.key with | .string s => s.data.toList | _ => []) = (l.map (·.key)).map fun v : Value => match v with | .string s => s.data.toList | _ => [] := by rw [List.map_map]; rfl
      rw [this, hkeys, List.map_map]
      exact List.map_id'' (fun x => rfl) _
    rw [← e2]
    exact (hp.symm).map _
  · rw [Maps.size_eq, Go.length_read, hlen]
/-- A sorted row of strings. -/
def sortS (l : List (List UInt8)) : List (List UInt8) := l.mergeSort fun x y => decide (x ≤ y)
def strRow (l : List (List UInt8)) : IV := .sl 1 l.length fun i => [.str (l.getD i [])]
theorem own_row {ρ : Rho} {ι : Imm} {H : AH} {w w' : World} {e : TypeId} {v : Value} {L : List (List UInt8)} (hS : SR ρ ι H w) (hb : Below w.heap.size w w') (h : w'.ownsRow w.heap.size e 1 v L.length (L.map encStr)) :
    ∃ ι', SR ρ ι' H w' ∧ Went ρ ι H w ρ ι' H w' ∧ (AV.iv (strRow L)).R ρ ι' v := by
  have ht : Touch (fun _ => False) w w' := ⟨hb.os, hb.tape, hb.output, hb.size, fun k hk _ => hb.block k hk⟩
  obtain ⟨h1, h2⟩ := h
  rcases h2 with ⟨rfl, h0⟩ | ⟨g, cap, cur, rfl, h3, h4, h5, h6, h7, h8⟩
  · obtain ⟨q1, q2, q3⟩ := hS.addImm ht w.heap.size (Nat.le_refl _) (fun _ => none) (fun o v h => by cases h)
    refine ⟨_, q2, q3, ?_⟩
    simp only [strRow, AV.R, IV.R]
    rw [h0]
    exact ⟨none, 0, rfl, Nat.le_refl _, Nat.zero_le _, fun k hk => by omega⟩
  · have hcell : ∀ o, o < L.length → cur[o]? = some (.string ⟨(L.getD o []).toArray⟩) := fun o ho => by
      have h9 : (cur.toList.take (L.length * 1))[o]? = (L.map encStr)[o]? := by rw [h8]
      rw [List.getElem?_take_of_lt (by omega), List.getElem?_map, List.getElem?_eq_getElem ho] at h9
      rw [← Array.getElem?_toList, h9]
      simp [List.getD, ho, encStr]
    obtain ⟨q1, q2, q3⟩ := hS.addImm ht g h3 (fun o => if o < L.length then cur[o]? else none) (fun o v hg => by
      split at hg
      · rename_i ho
        refine ⟨cellOf h4 hg, ?_⟩
        rw [hcell o ho] at hg
        injection hg with hg
        subst hg
        rfl
      · cases hg)
    refine ⟨_, q2, q3, ?_⟩
    simp only [strRow, AV.R, IV.R]
    refine ⟨_, cap, rfl, h5, h6, fun k hk => ⟨_, [.string ⟨(L.getD k []).toArray⟩], rfl, rfl, ?_, rfl, fun j u hj => ?_⟩⟩
    · simp only [IV.Rs, IV.R]
      exact ⟨_, _, rfl, rfl, rfl⟩
    · cases j with
      | zero =>
        simp only [List.getElem?_cons_zero, Option.some.injEq] at hj
        subst hj
        simp only [if_true, Nat.zero_add, Nat.mul_one, Nat.add_zero, if_pos hk]
        exact hcell k hk
      | succ j => simp at hj
theorem AVE.int {k : IntKind} {a b : Int} (h : a = b) : AVE (AV.int k a) (AV.int k b) := AVE.of_eq (by rw [h])
theorem AVE.bool {a b : Bool} (h : a = b) : AVE (AV.bool a) (AV.bool b) := AVE.of_eq (by rw [h])
theorem AVE.len {h sz off a b : Nat} (e : a = b) : AVE (AV.row h sz off a) (AV.row h sz off b) := AVE.of_eq (by rw [e])
/-- Immutable values that say less. -/
structure IVE (x y : IV) : Prop where
  run : ∀ ι v, x.R ι v → y.R ι v
theorem IVE.refl (x : IV) : IVE x x := ⟨fun _ _ h => h⟩
theorem IVE.nilBs : IVE (.v (.slice none 0 0)) (.bs []) := ⟨fun ι v h => by
  simp only [IV.R] at h ⊢
  subst h
  exact ⟨none, 0, rfl, Nat.le_refl _, Nat.zero_le _, fun k hk => by simp at hk⟩⟩
theorem IVE.nilSl (sz : Nat) (f : Nat → List IV) : IVE (.v (.slice none 0 0)) (.sl sz 0 f) := ⟨fun ι v h => by
  simp only [IV.R] at h ⊢
  subst h
  exact ⟨none, 0, rfl, Nat.le_refl _, Nat.zero_le _, fun k hk => by omega⟩⟩
def IVEs : List IV → List IV → Prop
  | [], ys => ys = []
  | x :: xs, ys => match ys with
    | y :: ys => IVE x y ∧ IVEs xs ys
    | [] => False
theorem IVEs.refl : ∀ xs : List IV, IVEs xs xs
  | [] => rfl
  | x :: xs => ⟨IVE.refl x, IVEs.refl xs⟩
theorem IVEs.run {ι : Imm} : ∀ {xs ys : List IV} {vs : List Value}, IVEs xs ys → IV.Rs ι xs vs → IV.Rs ι ys vs
  | [], ys, vs, h, hr => by simp only [IVEs] at h; subst h; exact hr
  | x :: xs, ys, vs, h, hr => by
    cases ys with
    | nil => exact h.elim
    | cons y ys =>
      simp only [IV.Rs] at hr ⊢
      obtain ⟨u, us, e, r, rs⟩ := hr
      exact ⟨u, us, e, h.1.run _ _ r, IVEs.run h.2 rs⟩
theorem ChE.rowE {e sz n n' : Nat} {f f' : Nat → List IV} (hn : n' ≤ n) (hf : ∀ i, i < n' → IVEs (f i) (f' i)) : ChE (.rowc e sz n f) (.rowc e sz n' f') := ⟨fun ρ ι hv w h => by
  rcases h with ⟨h1, h2, h3⟩ | ⟨b, arr, fr, h1, h2, h3, h4, h5, h6, h7⟩
  · exact .inl ⟨h1, by omega, h3⟩
  · refine .inr ⟨b, arr, fr, h1, h2, h3, h4, h5, Nat.le_trans (Nat.mul_le_mul_right _ hn) h6, fun i hi => ?_⟩
    obtain ⟨vs, g1, g2, g3, g4⟩ := h7 i (by omega)
    exact ⟨vs, (hf i hi).run g1, g2, g3, g4⟩⟩
theorem ChE.push {e sz i : Nat} {f g f' : Nat → List IV} (hf : ∀ j, j < i → f j = f' j) (hg : IVEs (g 0) (f' i)) : ChE (.rowc e sz (i + 1) fun j => if j < i then f j else g (j - i)) (.rowc e sz (i + 1) f') := ChE.rowE (Nat.le_refl _) fun j hj => by
  by_cases h : j < i
  · simp only [if_pos h, hf j h]; exact IVEs.refl _
  · have : j = i := by omega
    subst this
    simp only [if_neg h, Nat.sub_self]
    exact hg
theorem AVE.sl {sz n : Nat} {f f' : Nat → List IV} (hf : ∀ i, i < n → IVEs (f i) (f' i)) : AVE (.iv (.sl sz n f)) (.iv (.sl sz n f')) := ⟨fun ρ ι v h => by
  simp only [AV.R, IV.R] at h ⊢
  obtain ⟨A, c, h1, h2, h3, h4⟩ := h
  refine ⟨A, c, h1, h2, h3, fun k hk => ?_⟩
  obtain ⟨ad, vs, g1, g2, g3, g4, g5⟩ := h4 k hk
  exact ⟨ad, vs, g1, g2, (hf k hk).run g3, g4, g5⟩⟩
/-- A contract that says less. -/
theorem AFn.say {P : Program} {f : FuncId} {args : List AV} {H : AH} {X Y : Type} {R : X → AV} {HH : X → AH} {R' : Y → AV} {HH' : Y → AH} (h : AFn P f args H R HH) (g : ∀ x, ∃ y, AVE (R x) (R' y) ∧ HH x = HH' y) : AFn P f args H R' HH' :=
  ⟨h.fn, fun ρ ι w cargs hG hS hr => (h.run ρ ι w cargs hG hS hr).mono fun e w' hp => by
    cases e with
    | returned v =>
      obtain ⟨r, H', ρ', ι', ⟨x, e1, e2⟩, h1, h2, h3⟩ := hp
      subst e1 e2
      obtain ⟨y, g1, g2⟩ := g x
      exact ⟨R' y, HH' y, ρ', ι', ⟨y, rfl, rfl⟩, g1.run _ _ _ h1, g2 ▸ h2, g2 ▸ h3⟩
    | panicked ch => exact hp
    | outgrown => exact hp⟩
theorem HEnt.chunk {H : AH} {h : Nat} {c c' : Chunk} (hc : H.get h = some c) (he : ChE c c') : HEnt H (H.set h c') := ⟨fun ρ ι w hS => by
  obtain ⟨hv, hr, hR⟩ := hS.hv hc
  obtain ⟨h1, h2⟩ := hS.turn hc hr (Touch.refl _ w) (he.run _ _ _ _ hR)
  exact ⟨ρ, ι, h1, h2⟩⟩
/-! Maps with keys that are strings, as lists. -/
section
variable {β : Type}
def smap (g : β → IV) (l : List (List UInt8 × β)) : List (MK × IV) := l.map fun p => (MK.s p.1, g p.2)
def afind (l : List (List UInt8 × β)) (s : List UInt8) : Option β := (l.find? fun p => decide (p.1 = s)).map (·.2)
def aput (l : List (List UInt8 × β)) (s : List UInt8) (n : β) : List (List UInt8 × β) := match l with
  | [] => [(s, n)]
  | p :: ps => if p.1 = s then (s, n) :: ps else p :: aput ps s n
def adel (l : List (List UInt8 × β)) (s : List UInt8) : List (List UInt8 × β) := l.filter fun p => decide (p.1 ≠ s)
theorem mfind_smap (g : β → IV) (l : List (List UInt8 × β)) (s : List UInt8) : mfind (smap g l) (.s s) = (afind l s).map g := by
  unfold mfind afind smap
  rw [List.find?_map]
  have : ((fun p : MK × IV => decide (p.1 = MK.s s)) ∘ fun p : List UInt8 × β => (MK.s p.1, g p.2)) = fun p => decide (p.1 = s) := by
    funext p; simp
  rw [this]
  cases l.find? fun p => decide (p.1 = s) <;> rfl
theorem mput_smap (g : β → IV) (s : List UInt8) (n : β) : ∀ l : List (List UInt8 × β), mput (smap g l) (.s s) (g n) = smap g (aput l s n)
  | [] => rfl
  | p :: ps => by
    have ih := mput_smap g s n ps
    unfold smap at ih ⊢
    simp only [List.map_cons, mput, aput, MK.s.injEq]
    by_cases h : p.1 = s
    · simp only [h, if_true, List.map_cons]
    · simp only [h, if_false, List.map_cons, ih]
theorem mdel_smap (g : β → IV) (l : List (List UInt8 × β)) (s : List UInt8) : mdel (smap g l) (.s s) = smap g (adel l s) := by
  unfold mdel adel smap
  rw [List.filter_map]
  congr 2
  funext p
  simp
theorem keysS_smap (g : β → IV) (l : List (List UInt8 × β)) : keysS (smap g l) = l.map (·.1) := by
  unfold keysS smap
  rw [List.map_map]
  rfl
theorem afind_mem {l : List (List UInt8 × β)} {s : List UInt8} {n : β} (h : afind l s = some n) : (s, n) ∈ l := by
  unfold afind at h
  obtain ⟨p, h1, h2⟩ := Option.map_eq_some_iff.1 h
  have h3 := List.find?_some h1
  have h4 := List.mem_of_find?_eq_some h1
  simp only [decide_eq_true_eq] at h3
  obtain ⟨a, b⟩ := p
  simp only at h2 h3
  subst h2 h3
  exact h4
theorem afind_none {l : List (List UInt8 × β)} {s : List UInt8} : afind l s = none ↔ s ∉ l.map (·.1) := by
  unfold afind
  rw [Option.map_eq_none_iff, List.find?_eq_none]
  simp only [decide_eq_true_eq, List.mem_map, not_exists, not_and]
theorem smap_length (g : β → IV) (l : List (List UInt8 × β)) : (smap g l).length = l.length := by simp [smap]
end
theorem mem_sortS {x : List UInt8} {l : List (List UInt8)} : x ∈ sortS l ↔ x ∈ l := List.mem_mergeSort
theorem sortS_length (l : List (List UInt8)) : (sortS l).length = l.length := List.length_mergeSort l
/-- **Ways that leave by one exit meet**: at states of a family; what follows is shown once. -/
theorem AWP.merge {C : Cfg} {Y : Type} (TE : Y → Env) (TH : Y → AH) (k : Nat) {c : Code} {e : Env} {H : AH} {q : Post} (hk : ∀ y, q.x k (TE y) (TH y))
    (h : AWP C c e H { q with x := fun id e' H' => bif Nat.beq id k then (∃ y, Ent C.N C.base e' H' (TE y) (TH y)) else q.x id e' H' }) : AWP C c e H q :=
  ⟨fun lo ρ ι a w hE hS hM => wpIn_mono (h.run lo ρ ι a w hE hS hM) fun ex a' w' hq => by
    cases ex with
    | exit id =>
      obtain ⟨e', H', ρ', ι', hx, p1, p2, p3, m⟩ := hq
      cases hb : Nat.beq id k with
      | true =>
        have := Nat.eq_of_beq_eq_true hb
        subst this
        simp only [hb, cond_true] at hx
        obtain ⟨y, hent⟩ := hx
        obtain ⟨ρ'', ι'', q1, q2, q3⟩ := hent.run ρ' ι' a' w' p1 p2
        exact ⟨_, _, ρ'', ι'', hk y, q1, q2, p3.trans q3, m.went q3⟩
      | false =>
        simp only [hb, cond_false] at hx
        exact ⟨e', H', ρ', ι', hx, p1, p2, p3, m⟩
    | _ => exact hq⟩
/-- **Ways that end a block meet**: at states of a family; what follows is shown once. -/
theorem AWP.meet {C : Cfg} {Y : Type} (TE : Y → Env) (TH : Y → AH) {c : Code} {e : Env} {H : AH} {q : Post} (hk : ∀ y, q.n (TE y) (TH y))
    (h : AWP C c e H { q with n := fun e' H' => ∃ y, Ent C.N C.base e' H' (TE y) (TH y) }) : AWP C c e H q :=
  ⟨fun lo ρ ι a w hE hS hM => wpIn_mono (h.run lo ρ ι a w hE hS hM) fun ex a' w' hq => by
    cases ex with
    | normal =>
      obtain ⟨e', H', ρ', ι', ⟨y, hent⟩, p1, p2, p3, m⟩ := hq
      obtain ⟨ρ'', ι'', q1, q2, q3⟩ := hent.run ρ' ι' a' w' p1 p2
      exact ⟨_, _, ρ'', ι'', hk y, q1, q2, p3.trans q3, m.went q3⟩
    | _ => exact hq⟩
/-- What is shown of a loop ahead once, for all ways that come to it. -/
theorem AWP.ahead {P : Prop} {C : Cfg} {b : Code} {q : Post} (e : Env) (H : AH) (h : AWP C b e H q → P) (k : AWP C b e H q) : P := h k
theorem not_t {b : Bool} (h : (!b) = true) : b = false := by cases b <;> simp_all
theorem not_f {b : Bool} (h : (!b) = false) : b = true := by cases b <;> simp_all
end Go.Proofs.YtpgdbeacmlojcaaGreat.Ax
