/-
  Closed runs: places, loads, maps that are read.
-/
import Derived.Test.YtjhaikcokbmdbaaGreatDoorCxG
namespace Go.Proofs.YtjhaikcokbmdbaaGreatDoor.Cx
open Go.RowKit Go.Proofs.YtjhaikcokbmdbaaGreatDoor.Ax

/-- Variables that nobody writes. -/
def GmW (W : World) : Prop := ∀ (i : Nat) (x : Nat × KK × List (CK × CV)), gmaps[i]? = some x → ∃ r, r < W.heap.size ∧ W.cell? ⟨x.1, 0, none⟩ = some (.map (some r)) ∧ ∀ ρ' : Rho, Chunk.R ρ' (r, 0) W (.map x.2.1 0 x.2.2 none)
def GOk (G : Tr (List CV)) (W : World) : Prop := GmW W ∧ ∀ g cs, G.get g = some cs → g < W.heap.size ∧ ∃ vs, (∀ (ρ : Rho) n, Gm W ρ n → CV.Rs ρ cs vs) ∧ ∀ (j : Nat) u, vs[j]? = some u → W.cell? ⟨g, j, none⟩ = some u
section
variable {P : Program} {ρ : Rho} {W w : World} {H : CH}
theorem rd_ofO {o : Option CV} {n : Nat} {s : Sem Value} (h : ∀ x, o = some x → ∃ u, s.run P w = .ok u w ∧ x.R ρ u) : (Out.ofO n o).rd P ρ w s := by
  cases o with
  | none => exact trivial
  | some x => exact h x rfl
theorem rd_ofOld {o : Option CV} {n : Nat} {s : Sem Value} (h : ∀ x, o = some x → ∃ u, s.run P w = .ok u w ∧ x.R ρ u) : (Out.ofOld n o).rd P ρ w s := by
  cases o with
  | none => exact trivial
  | some x => exact h x rfl
theorem R_ofV1 (z : Value) : (CV.ofV1 z).R ρ z := by
  cases z <;> simp only [CV.ofV1, CV.R]
  rename_i s
  refine ⟨fun c hc => ?_, ?_⟩
  · simp only [List.mem_map] at hc
    obtain ⟨x, _, rfl⟩ := hc
    exact x.toNat_lt
  · rw [List.map_map]
    have : (UInt8.ofNat ∘ UInt8.toNat) = id := by funext x; simp
    rw [this]
    simp
theorem Rs_ofV1 : ∀ l : List Value, CV.Rs ρ (l.map CV.ofV1) l
  | [] => by simp [CV.Rs]
  | x :: xs => by simp only [List.map_cons, CV.Rs]; exact ⟨_, _, rfl, R_ofV1 x, Rs_ofV1 xs⟩
theorem R_ofV (z : Value) : (CV.ofV z).R ρ z := by
  have h1 := R_ofV1 (ρ := ρ) z
  cases z
  case agg cs => show (CV.agg (cs.toList.map CV.ofV1)).R ρ _; simp only [CV.R]; exact ⟨cs.toList, by simp, Rs_ofV1 _⟩
  case tuple cs => show (CV.tup (cs.toList.map CV.ofV1)).R ρ _; simp only [CV.R]; exact ⟨cs.toList, by simp, Rs_ofV1 _⟩
  all_goals exact h1
theorem cellsC_spec {x : CV} {v : Value} {cs : List CV} (hx : x.R ρ v) (h : cellsC x = some cs) : ∃ vs, v.cells = vs.toArray ∧ CV.Rs ρ cs vs := by
  have one : (∀ vs, v ≠ .agg vs) → ∃ vs, v.cells = vs.toArray ∧ CV.Rs ρ [x] vs := fun hv =>
    ⟨[v], by cases v <;> first | rfl | exact absurd rfl (hv _), by simp only [CV.Rs]; exact ⟨v, [], rfl, hx, rfl⟩⟩
  cases x <;> simp only [cellsC, reduceCtorEq, Option.some.injEq] at h
  case agg l =>
    subst h
    simp only [CV.R] at hx
    obtain ⟨vs, rfl, r⟩ := hx
    exact ⟨vs, rfl, r⟩
  case v y =>
    simp only [CV.R] at hx
    subst hx
    cases v <;> simp only [reduceCtorEq, Option.some.injEq] at h <;> (subst h; exact one fun vs e => by cases e)
  all_goals
    subst h
    refine one fun vs e => ?_
    subst e
    simp only [CV.R, reduceCtorEq, and_false, exists_false, false_and] at hx
theorem fieldT_spec {t f off ft : Nat} (h : fieldT (mkTD P) t f = some (off, ft)) : ∃ (fs : Array Field) (fld : Field), P.underlying t = some (.struct fs) ∧ fs[f]? = some fld ∧ fld.offset = off ∧ fld.type = ft := by
  unfold fieldT at h
  split at h
  · rename_i d hd
    split at h
    · rename_i fs hk
      obtain ⟨fa, h1, rfl⟩ := u_st hd hk
      rw [nth_eq, List.getElem?_map] at h
      obtain ⟨fld, h2, h3⟩ := Option.map_eq_some_iff.1 h
      simp only [Prod.mk.injEq] at h3
      exact ⟨fa, fld, h1, by simpa using h2, h3.1, h3.2⟩
    · cases h
  · cases h
theorem faddrC_ok (t f : Nat) (x : CV) {v : Value} (hx : x.R ρ v) : (faddrC (mkTD P) t f x).rd P ρ w (Instr.fieldAt t v f) := by
  unfold faddrC
  split
  · rename_i off ft hf
    split
    · rename_i d hd
      cases hz : Nat.beq d.size 0 with
      | true => exact trivial
      | false =>
        have hz : d.size ≠ 0 := fun e => by rw [e] at hz; cases hz
        obtain ⟨fs, fld, h1, h2, rfl, rfl⟩ := fieldT_spec hf
        have h3 := r_size hd w
        have run : ∀ a : Addr, (Instr.fieldAt t (.pointer (some a)) f).run P w = .ok (.pointer (some (a.add fld.offset))) w := fun a => by
          simp [Instr.fieldAt, run_underlying h1, h2, Instr.sureAddr, fieldPlace, h3, hz]
        simp only [cond_false]
        split
        · simp only [CV.R] at hx
          obtain ⟨b, m, g1, rfl⟩ := hx
          refine ⟨_, run _, ?_⟩
          rw [add_none]
          simp only [CV.R]
          exact ⟨b, m, g1, rfl⟩
        · simp only [CV.R] at hx
          subst hx
          refine ⟨_, run _, ?_⟩
          rw [add_none]
          simp only [CV.R]
        · exact trivial
    · exact trivial
  · exact trivial
theorem inR_spec {n : Int} {m : Nat} (h : inR n m = true) : 0 ≤ n ∧ n < m ∧ n.toNat < m := by
  cases n with
  | ofNat k =>
    have : k < m := by rw [← Nat.blt_eq]; exact h
    exact ⟨by simp, by simp; omega, by simpa using this⟩
  | negSucc k => cases h
theorem iaddrC_ok (t : Nat) (x i : CV) {v u : Value} (hx : x.R ρ v) (hi : i.R ρ u) : (iaddrC (mkTD P) t x i).rd P ρ w (Instr.indexAt t v u) := by
  unfold iaddrC
  split
  · rename_i d k n hd
    simp only [CV.R] at hi
    subst hi
    split
    · rename_i e h sz off m cap hk
      split
      · rename_i de hde
        cases hb : (Nat.beq sz de.size && inR n m) with
        | false => exact trivial
        | true =>
          rw [Bool.and_eq_true] at hb
          have hsz := Nat.eq_of_beq_eq_true hb.1
          obtain ⟨h0, h1, h2⟩ := inR_spec hb.2
          simp only [CV.R] at hx
          obtain ⟨b, q, o, c, g1, rfl, g2, g3, g4, g5, g6⟩ := hx
          have h4 := r_size hde w
          have ho : o = off := g4 (by omega)
          subst ho
          refine ⟨.pointer (some ⟨b, o + n.toNat * sz, none⟩), ?_, by simp only [CV.R]; exact ⟨b, q, g1, rfl⟩⟩
          simp [Instr.indexAt, asIntOf, run_underlying (u_sl hd hk), h0, h1, h4, add_none, hsz]
      · exact trivial
    · rename_i m e h off hk
      split
      · rename_i de hde
        cases hb : inR n m with
        | false => exact trivial
        | true =>
          obtain ⟨h0, h1, h2⟩ := inR_spec hb
          simp only [CV.R] at hx
          obtain ⟨b, q, g1, rfl⟩ := hx
          have h4 := r_size hde w
          refine ⟨.pointer (some ⟨b, off + n.toNat * de.size, none⟩), ?_, by simp only [CV.R]; exact ⟨b, q, g1, rfl⟩⟩
          simp [Instr.indexAt, asIntOf, run_underlying (u_arr hd hk), Instr.sureAddr, h0, h1, h4, add_none]
      · exact trivial
    · rename_i m e g off hk
      split
      · rename_i de hde
        cases hb : inR n m with
        | false => exact trivial
        | true =>
          obtain ⟨h0, h1, h2⟩ := inR_spec hb
          simp only [CV.R] at hx
          subst hx
          have h4 := r_size hde w
          refine ⟨.pointer (some ⟨g, off + n.toNat * de.size, none⟩), ?_, by simp only [CV.R]⟩
          simp [Instr.indexAt, asIntOf, run_underlying (u_arr hd hk), Instr.sureAddr, h0, h1, h4, add_none]
      · exact trivial
    · exact trivial
  · exact trivial
theorem indexC_ok (t : Nat) (x i : CV) {v u : Value} (hx : x.R ρ v) (hi : i.R ρ u) : (indexC (mkTD P) t x i).rd P ρ w (Instr.index t v u) := by
  unfold indexC
  split
  · rename_i d l k n hd
    simp only [CV.R] at hi
    subst hi
    obtain ⟨hl, rfl⟩ := R_str' hx
    split
    · rename_i hk
      split
      · rename_i c hc
        cases hp : posI n with
        | false => rw [hp] at hc; cases hc
        | true =>
          rw [hp] at hc
          simp only [cond_true, nth_eq] at hc
          have h0 : 0 ≤ n := by cases n <;> first | (cases hp; done) | simp
          have hlt : n.toNat < l.length := (List.getElem?_eq_some_iff.1 hc).1
          have e1 : (⟨(u8s l).toArray⟩ : ByteArray)[n.toNat]? = some (UInt8.ofNat c) := by
            have hsz : (⟨(u8s l).toArray⟩ : ByteArray).size = l.length := by simp [ByteArray.size, u8s]
            have e0 : (⟨(u8s l).toArray⟩ : ByteArray)[n.toNat]? = (u8s l)[n.toNat]? := by
              rw [getElem?_pos (⟨(u8s l).toArray⟩ : ByteArray) n.toNat (by rw [hsz]; exact hlt), List.getElem?_eq_getElem (by simpa [u8s] using hlt)]
              rfl
            rw [e0]
            simp [u8s, hc]
          have hcm : c < 256 := hl c (List.mem_of_getElem? hc)
          refine rd_int (n := ((UInt8.ofNat c).toNat : Int)) ?_ ?_
          · simp [Instr.index, asIntOf, run_underlying (u_str hd hk), h0, e1]
          · rw [UInt8.toNat_ofNat', Nat.mod_eq_of_lt hcm]; rfl
      · exact trivial
    · exact trivial
  · rename_i d cs k n hd
    simp only [CV.R] at hi hx
    subst hi
    obtain ⟨vs, rfl, r⟩ := hx
    split
    · rename_i m e hk
      split
      · rename_i de hde
        cases hb : inR n m with
        | false => exact trivial
        | true =>
          obtain ⟨h0, h1, h2⟩ := inR_spec hb
          refine rd_ofO fun x hx => ?_
          obtain ⟨u, p1, p2⟩ := part_ok (P := P) (w := w) r hx
          refine ⟨u, ?_, p2⟩
          have h4 := r_size hde w
          simp [Instr.index, asIntOf, run_underlying (u_arr hd hk), h0, h1, h4, p1]
      · exact trivial
    · exact trivial
  · exact trivial
/-- Cells of a place. -/
theorem cell_at {b m : Nat} {off : Nat} {cs : List CV} (h : (Chunk.cells cs).R ρ (b, m) w) : ∃ vs, CV.Rs ρ (cs.drop off) vs ∧ (∀ v ∈ vs, v.oneCell' = true) ∧ ∀ (j : Nat) u, vs[j]? = some u → w.cell? ⟨b, off + j, none⟩ = some u := by
  obtain ⟨arr, e, fr, vs, h1, h2, h3, h4, h5, h6⟩ := h
  refine ⟨vs.drop off, Rs_drop _ _ _ h4, fun v hv => h5 v (List.mem_of_mem_drop hv), fun j u hj => ?_⟩
  rw [List.getElem?_drop] at hj
  rw [heap_cell h1]
  exact h6 _ _ hj
theorem loadAt_run {t : Nat} {d : TD} (hd : mkTD P t = some d) {b off : Nat} {cs : List CV} {vs : List Value} (hr : CV.Rs ρ cs vs) (hc : ∀ (j : Nat) u, vs[j]? = some u → w.cell? ⟨b, off + j, none⟩ = some u) {x : CV} (hx : partC (mkTD P) t cs 0 = some x) :
    ∃ u, (Instr.loadAt t (.pointer (some ⟨b, off, none⟩))).run P w = .ok u w ∧ x.R ρ u := by
  have ha := r_agg hd w
  have hz := r_size hd w
  unfold partC at hx
  simp only [hd] at hx
  cases hag : d.isAgg with
  | true =>
    rw [hag] at hx ha
    simp only [cond_true] at hx
    cases hb : Nat.ble (0 + d.size) (len cs) with
    | false => rw [hb] at hx; cases hx
    | true =>
      rw [hb] at hx
      have hle := Nat.le_of_ble_eq_true hb
      simp only [cond_true, Option.some.injEq, takeL_eq, dropL_eq, List.drop_zero] at hx
      subst hx
      rw [len_eq] at hle
      have hlen := Rs_len _ _ hr
      have hl : (vs.take d.size).length = d.size := by rw [List.length_take]; omega
      have h3 := run_loadCells_list (P := P) (w := w) ⟨b, off, none⟩ (vs.take d.size) (fun j v hj => by
        rw [add_none]
        refine hc j v ?_
        rw [List.getElem?_take] at hj
        split at hj
        · exact hj
        · cases hj)
      rw [hl] at h3
      refine ⟨.agg (vs.take d.size).toArray, by simp [Instr.loadAt, Instr.sureAddr, loadVar, ha, hz, h3], ?_⟩
      simp only [CV.R]
      exact ⟨_, rfl, Rs_take _ _ _ hr⟩
  | false =>
    rw [hag] at hx ha
    simp only [cond_false, nth_eq] at hx
    obtain ⟨u, h1, h2⟩ := Rs_get _ _ 0 _ hr hx
    have h3 := hc 0 u h1
    rw [Nat.add_zero] at h3
    exact ⟨u, by simp [Instr.loadAt, Instr.sureAddr, loadVar, ha, h3], h2⟩
theorem partC_drop {t off : Nat} {cs : List CV} : partC (mkTD P) t cs off = partC (mkTD P) t (cs.drop off) 0 ∨ partC (mkTD P) t cs off = none := by
  unfold partC
  split
  · rename_i d hd
    cases d.isAgg with
    | true =>
      simp only [cond_true, takeL_eq, dropL_eq, len_eq, List.drop_zero, Nat.zero_add, List.length_drop]
      cases hb : Nat.ble (off + d.size) cs.length with
      | false => exact .inr rfl
      | true =>
        have := Nat.le_of_ble_eq_true hb
        rw [Nat.ble_eq_true_of_le (by omega : d.size ≤ cs.length - off)]
        exact .inl rfl
    | false => simp only [cond_false, nth_eq]; left; simp
  · exact .inr rfl
theorem loadC_ok {G : Tr (List CV)} (hG : GOk G W) (hS : SR W ρ H w) (t : Nat) (x : CV) {v : Value} (hx : x.R ρ v) : (loadC (mkTD P) G H t x).rd P ρ w (Instr.loadAt t v) := by
  unfold loadC
  split
  · rename_i h off
    simp only [CV.R] at hx
    obtain ⟨b, m, g1, rfl⟩ := hx
    split
    · rename_i cs hg
      obtain ⟨vs, c1, c2, c3⟩ := cell_at (off := off) (hS.p hg g1)
      split
      · rename_i d hd
        cases hag : d.isAgg with
        | true =>
          refine rd_ofO fun x hx => ?_
          rcases partC_drop (P := P) (t := t) (off := off) (cs := cs) with h | h
          · exact loadAt_run hd c1 c3 (h.symm.trans hx)
          · rw [h] at hx; cases hx
        | false =>
          refine rd_ofOld fun x hx => ?_
          refine loadAt_run hd c1 c3 ?_
          unfold partC
          simp only [hd, hag, cond_false, nth_eq] at hx ⊢
          simpa using hx
      · exact trivial
    · exact trivial
  · rename_i g off
    simp only [CV.R] at hx
    subst hx
    split
    · rename_i cs hg
      obtain ⟨hlt, vs, c1, c2⟩ := hG.2 g cs hg
      refine rd_ofO fun x hx => ?_
      rcases partC_drop (P := P) (t := t) (off := off) (cs := cs) with h | h
      · cases hd : mkTD P t with
        | none => unfold partC at hx; rw [hd] at hx; cases hx
        | some d =>
          refine loadAt_run hd (Rs_drop off _ _ (c1 ρ _ hS.gm)) (fun j u hj => ?_) (h.symm.trans hx)
          rw [List.getElem?_drop] at hj
          have := c2 _ u hj
          unfold World.cell? at this ⊢
          rw [hS.base.block g hlt]
          exact this
      · rw [h] at hx; cases hx
    · exact trivial
  · exact trivial
theorem extrO_ok (x : CV) (i : Nat) {v : Value} (hx : x.R ρ v) : (extrO x i).rd P ρ w (Instr.extract v i) := by
  unfold extrO
  split
  · rename_i l
    simp only [CV.R] at hx
    obtain ⟨vs, rfl, r⟩ := hx
    refine rd_ofOld fun y hy => ?_
    rw [nth_eq] at hy
    obtain ⟨u, h1, h2⟩ := Rs_get _ _ _ _ r hy
    exact ⟨u, by simp [Instr.extract, h1], h2⟩
  · exact trivial
theorem fieldO_ok (t f : Nat) (x : CV) {v : Value} (hx : x.R ρ v) : (fieldO (mkTD P) t f x).rd P ρ w (Instr.field t v f) := by
  unfold fieldO
  split
  · rename_i off ft cs hf
    simp only [CV.R] at hx
    obtain ⟨vs, rfl, r⟩ := hx
    obtain ⟨fs, fld, h1, h2, rfl, rfl⟩ := fieldT_spec hf
    refine rd_ofO fun y hy => ?_
    obtain ⟨u, p1, p2⟩ := part_ok (P := P) (w := w) r hy
    exact ⟨u, by simp [Instr.field, run_underlying h1, h2, asAgg, p1], p2⟩
  · exact trivial
theorem ifcC_ok (t : Nat) (x : CV) {v : Value} (hx : x.R ρ v) : (ifcC (mkTD P) t x).rd P ρ w (Instr.makeInterface t v) := by
  unfold ifcC
  split
  · rename_i d hd
    obtain ⟨u, i, h1, _, rfl⟩ := mkTD_spec hd
    have run : (∀ ms, u ≠ .interface ms) → (Instr.makeInterface t v).run P w = .ok (.iface t v) w := fun hn => by
      cases u <;> first | exact absurd rfl (hn _) | simp [Instr.makeInterface, run_underlying h1]
    split
    · exact trivial
    · rename_i hk
      exact ⟨_, run fun ms e => by subst e; exact hk rfl, by simp only [CV.R]; exact ⟨v, rfl, hx⟩⟩
  · exact trivial
theorem R_tup2 {x y : CV} {u v : Value} (hx : x.R ρ u) (hy : y.R ρ v) : (CV.tup [x, y]).R ρ (.tuple #[u, v]) := by
  simp only [CV.R, CV.Rs]
  exact ⟨[u, v], rfl, u, _, rfl, hx, v, _, rfl, hy, rfl⟩
theorem assertC_ok (t xt : Nat) (ok : Bool) (x : CV) {v : Value} (hx : x.R ρ v) : (assertC (mkTD P) t ok x).rd P ρ w (Instr.typeAssert v xt t ok) := by
  unfold assertC
  split
  · rename_i d hd
    obtain ⟨u, i, h1, h2, rfl⟩ := mkTD_spec hd
    have hz : ∀ z, i.zero = some z → (zeroValue t).run P w = .ok z w := fun z hz => r_zero hd hz w
    have main : (∀ ms, u ≠ .interface ms) → (∀ y, (Instr.typeAssert (.iface t y) xt t ok).run P w = .ok (if ok then .tuple #[y, .bool true] else y) w) ∧
        (∀ (s : Nat) y z, s ≠ t → i.zero = some z → (Instr.typeAssert (.iface s y) xt t true).run P w = .ok (.tuple #[z, .bool false]) w) ∧
        (∀ z, i.zero = some z → (Instr.typeAssert .nilIface xt t true).run P w = .ok (.tuple #[z, .bool false]) w) := fun hn => by
      refine ⟨fun y => ?_, fun s y z hs hz' => ?_, fun z hz' => ?_⟩
      · cases u <;> first | exact absurd rfl (hn _) | (simp [Instr.typeAssert, run_underlying h1])
      · have := hz z hz'
        cases u <;> first | exact absurd rfl (hn _) | (simp [Instr.typeAssert, run_underlying h1, hs, this])
      · have := hz z hz'
        cases u <;> first | exact absurd rfl (hn _) | (simp [Instr.typeAssert, run_underlying h1, this])
    split
    · exact trivial
    · rename_i s y hk
      obtain ⟨yes, no, _⟩ := main fun ms e => by subst e; exact hk rfl
      simp only [CV.R] at hx
      obtain ⟨u', rfl, hy⟩ := hx
      cases hb : Nat.beq s t with
      | true =>
        have := Nat.eq_of_beq_eq_true hb
        subst this
        cases ok with
        | true => exact ⟨_, yes u', R_tup2 hy (R_bool true)⟩
        | false => exact ⟨_, yes u', hy⟩
      | false =>
        have hs : s ≠ t := fun e => by rw [e] at hb; simp at hb
        simp only [cond_false]
        split
        · rename_i z hz'
          exact ⟨_, no s u' z hs hz', R_tup2 (R_ofV z) (R_bool false)⟩
        · exact trivial
    · rename_i hk
      obtain ⟨_, _, nil⟩ := main fun ms e => by subst e; exact hk rfl
      simp only [CV.R] at hx
      subst hx
      split
      · exact ⟨_, nil _ (by assumption), R_tup2 (R_ofV _) (R_bool false)⟩
      · exact trivial
    · exact trivial
  · exact trivial
theorem lenC_ok (hS : SR W ρ H w) (t : Nat) (x : CV) {v : Value} (hx : x.R ρ v) (ts : List TypeId) (rest : List Value) (ty : TypeId) : (lenC (mkTD P) H t x).rd P ρ w (Builtin.len_ (t :: ts).toArray ty (v :: rest).toArray) := by
  unfold lenC
  split
  · rename_i d hd
    split
    · rename_i l hk
      obtain ⟨hl, rfl⟩ := R_str' hx
      have hsz : (⟨(u8s l).toArray⟩ : ByteArray).size = l.length := by simp [ByteArray.size, u8s]
      exact rd_int (n := (l.length : Int)) (by simp [Builtin.len_, run_underlying (u_str hd hk), hsz, goInt]) (by rw [len_eq]; rfl)
    · rename_i n e hk
      exact rd_int (n := (n : Int)) (by simp [Builtin.len_, run_underlying (u_arr hd hk), goInt]) rfl
    · rename_i e h sz off n cap hk
      simp only [CV.R] at hx
      obtain ⟨b, q, o, c, g1, rfl, _⟩ := hx
      exact rd_int (n := (n : Int)) (by simp [Builtin.len_, run_underlying (u_sl hd hk), goInt]) rfl
    · rename_i e a n c hk
      simp only [CV.R] at hx
      subst hx
      exact rd_int (n := (n : Int)) (by simp [Builtin.len_, run_underlying (u_sl hd hk), goInt]) rfl
    · rename_i k e h hk
      simp only [CV.R] at hx
      obtain ⟨b, q, g1, rfl⟩ := hx
      split
      · rename_i kk ver m bs hg
        obtain ⟨es, clock, h1, h2, h3⟩ := hS.p hg g1
        have hobj := run_getObj (P := P) h1 (fun _ _ _ => by simp)
        obtain ⟨l, hp, hz⟩ := h2.zip
        have hlen : es.size = m.length := by
          have e1 := hp.length_eq
          have e2 := hz.len
          simp only [toM, List.length_map] at e2
          have e3 : es.toList.length = es.size := by simp
          omega
        exact rd_int (n := (es.size : Int)) (by simp [Builtin.len_, run_underlying (u_mp hd hk), hobj, goInt]) (by rw [len_eq, hlen]; rfl)
      · exact trivial
    · rename_i k e hk
      simp only [CV.R] at hx
      subst hx
      exact rd_int (n := 0) (by simp [Builtin.len_, run_underlying (u_mp hd hk), goInt]) rfl
    · exact trivial
  · exact trivial
theorem minC_ok (mx : Bool) (x y : CV) {u v : Value} (hx : x.R ρ u) (hy : y.R ρ v) (ts : Array TypeId) (ty : TypeId) : (minC mx x y).rd P ρ w (bif mx then Builtin.max_ ts ty #[u, v] else Builtin.min_ ts ty #[u, v]) := by
  unfold minC
  split
  · rename_i k a j b
    simp only [CV.R] at hx hy
    subst hx hy
    cases he : eqK k j with
    | false => exact trivial
    | true =>
      have := eqK_spec he
      subst this
      simp only [cond_true]
      cases mx with
      | false => exact rd_int (n := if b < a then b else a) (by simp [Builtin.min_, Builtin.min2]) (by simp only [cond_false, ltI_eq]; by_cases h : b < a <;> simp [h])
      | true => exact rd_int (n := if a < b then b else a) (by simp [Builtin.max_, Builtin.max2]) (by simp only [cond_true, ltI_eq]; by_cases h : a < b <;> simp [h])
  · exact trivial
theorem s2aO_ok (t : Nat) (x : CV) {v : Value} (hx : x.R ρ v) : (s2aO (mkTD P) t x).rd P ρ w (Instr.arrayAt t v) := by
  unfold s2aO
  split
  · rename_i d h sz off n cap hd
    simp only [CV.R] at hx
    obtain ⟨b, q, o, c, g1, rfl, g2, g3, g4, g5, g6⟩ := hx
    split
    · rename_i m e hk
      cases hb : (Nat.ble m n && Nat.ble 1 n) with
      | false => exact trivial
      | true =>
        rw [Bool.and_eq_true] at hb
        have h1 := Nat.le_of_ble_eq_true hb.1
        have h2 := Nat.le_of_ble_eq_true hb.2
        refine ⟨.pointer (some ⟨b, o, none⟩), ?_, ?_⟩
        · have : ¬ n < m := by omega
          simp [Instr.arrayAt, run_underlying (u_arr hd hk), this]
        · rw [g4 (by omega)]
          simp only [CV.R]
          exact ⟨b, q, g1, rfl⟩
    · exact trivial
  · exact trivial
/-! Parts laid into cells. -/
theorem layV_length : ∀ (us vs : List Value) (o : Nat), (layV vs o us).length = vs.length
  | [], _, _ => rfl
  | u :: us, vs, o => by simp only [layV]; rw [layV_length us _ (o + 1)]; simp
theorem layV_get : ∀ (us vs : List Value) (o j : Nat), o + us.length ≤ vs.length → (layV vs o us)[j]? = if o ≤ j ∧ j < o + us.length then us[j - o]? else vs[j]?
  | [], vs, o, j, h => by simp only [layV]; rw [if_neg (by simp only [List.length_nil]; omega)]
  | u :: us, vs, o, j, h => by
    simp only [layV, List.length_cons] at h ⊢
    rw [layV_get us _ (o + 1) j (by simp; omega)]
    by_cases h1 : j = o
    · subst h1
      rw [if_neg (by omega), if_pos (by omega), List.getElem?_set_self (by omega)]
      simp
    · by_cases h2 : o + 1 ≤ j ∧ j < o + 1 + us.length
      · rw [if_pos h2, if_pos (by omega)]
        have : j - o = (j - (o + 1)) + 1 := by omega
        rw [this]
        simp
      · rw [if_neg h2, if_neg (by omega), List.getElem?_set_ne (by omega)]
theorem Rs_over {cs xs : List CV} {vs us : List Value} {off : Nat} (hc : CV.Rs ρ cs vs) (hx : CV.Rs ρ xs us) (h : off + xs.length ≤ cs.length) : CV.Rs ρ (overL cs xs off) (layV vs off us) := by
  have l1 := Rs_len _ _ hc
  have l2 := Rs_len _ _ hx
  refine (Rs_iff _ _).2 ⟨by rw [layV_length, overL_length h, l1], fun i x u hi hu => ?_⟩
  rw [overL_get h] at hi
  rw [layV_get _ _ _ _ (by omega), l2] at hu
  split at hi
  · rename_i hc'; rw [if_pos hc'] at hu; exact ((Rs_iff _ _).1 hx).2 _ _ _ hi hu
  · rename_i hc'; rw [if_neg hc'] at hu; exact ((Rs_iff _ _).1 hc).2 _ _ _ hi hu
inductive PRs (ρ : Rho) : List (Nat × CV) → List (Nat × Value) → Prop where
  | nil : PRs ρ [] []
  | cons {i : Nat} {x : CV} {u : Value} {ps : List (Nat × CV)} {qs : List (Nat × Value)} (h : x.R ρ u) (t : PRs ρ ps qs) : PRs ρ ((i, x) :: ps) ((i, u) :: qs)
theorem fillC_ok (place : Nat → Option (Nat × Nat)) {ps : List (Nat × CV)} {qs : List (Nat × Value)} (hp : PRs ρ ps qs) : ∀ (cs cs' : List CV) (vs : List Value), CV.Rs ρ cs vs → fillC place ps cs = some cs' →
    ∃ vs', Instr.fill place vs.toArray qs = some vs'.toArray ∧ CV.Rs ρ cs' vs' ∧ cs'.length = cs.length := by
  induction hp with
  | nil =>
    intro cs cs' vs hr hf
    have hf : some cs = some cs' := hf
    injection hf with hf
    subst hf
    exact ⟨vs, rfl, hr, rfl⟩
  | @cons i x u ps qs r t ih =>
    intro cs cs' vs hr hf
    have hf : (match place i, cellsC x with
      | some (off, size), some vs => bif Nat.beq (len vs) size && Nat.ble (off + size) (len cs) then fillC place ps (overL cs vs off) else none
      | _, _ => none) = some cs' := hf
    split at hf
    · rename_i off size xs hpl hxs
      obtain ⟨ys, e, hy⟩ := cellsC_spec r hxs
      cases hb : (Nat.beq (len xs) size && Nat.ble (off + size) (len cs)) with
      | false => rw [hb] at hf; cases hf
      | true =>
        rw [hb] at hf
        rw [Bool.and_eq_true] at hb
        have h1 := Nat.eq_of_beq_eq_true hb.1
        have h2 := Nat.le_of_ble_eq_true hb.2
        rw [len_eq] at h1 h2
        have l1 := Rs_len _ _ hy
        have l2 := Rs_len _ _ hr
        simp only [cond_true] at hf
        obtain ⟨vs', g1, g2, g3⟩ := ih _ _ _ (Rs_over hr hy (by omega)) hf
        refine ⟨vs', ?_, g2, by rw [g3, overL_length (by omega)]⟩
        unfold Instr.fill
        simp only [hpl]
        have hc : ¬ ((u.cells.size ≠ size || off + u.cells.size > vs.toArray.size) = true) := by
          rw [e]
          simp
          omega
        rw [if_neg hc, e]
        have := fold_layV ys 0 off vs
        rw [Nat.add_zero] at this
        rw [← g1, ← this]
        congr 1
        simp
    · cases hf
theorem PRs_map {g : Operand → CV} {ev : Operand → Value} (hg : ∀ x, (g x).R ρ (ev x)) : ∀ l : List (Nat × Operand), PRs ρ (mapL (partsG g) l) (l.map fun p => (p.1, ev p.2))
  | [] => .nil
  | p :: l => .cons (hg p.2) (PRs_map hg l)
theorem placesC_spec : ∀ (l : List Field) (pl : List (Nat × Nat)), placesC (mkTD P) (l.map fun f => (f.offset, f.type)) = some pl → l.mapM (fun f => (P.info? f.type).map fun i => (f.offset, i.size)) = some pl
  | [], pl, h => by
    have h : some [] = some pl := h
    cases h; rfl
  | f :: l, pl, h => by
    have h : (match mkTD P f.type, placesC (mkTD P) (l.map fun f => (f.offset, f.type)) with
      | some d, some r => some ((f.offset, d.size) :: r)
      | _, _ => none) = some pl := h
    split at h
    · rename_i d r hd hr
      simp only [Option.some.injEq] at h
      subst h
      obtain ⟨i, h1, h2, _⟩ := u_info hd
      simp [List.mapM_cons, h1, placesC_spec l r hr, h2]
    · cases h
theorem zeroC_spec {d : TD} {cs : List CV} (h : zeroC d = some cs) : ∃ z, d.zero = some z ∧ ∀ ρ : Rho, CV.Rs ρ cs z.cells.toList := by
  unfold zeroC at h
  split at h
  · rename_i z hz
    refine ⟨z, hz, fun ρ => ?_⟩
    obtain ⟨vs, h1, h2⟩ := cellsC_spec (R_ofV (ρ := ρ) z) h
    rw [h1]
    exact h2
  · cases h
theorem buildC_ok (t : Nat) {ps : List (Nat × CV)} {qs : Array (Nat × Value)} (hp : PRs ρ ps qs.toList) : (buildC (mkTD P) t ps).rd P ρ w (Instr.build t qs) := by
  unfold buildC
  split
  · rename_i d hd
    obtain ⟨u, i, h1, h2, rfl⟩ := mkTD_spec hd
    split
    · rename_i fs z hk hz
      split
      · rename_i pl hpl
        obtain ⟨arr, h3, rfl⟩ := u_st hd hk
        obtain ⟨zv, hzv, hzr⟩ := zeroC_spec hz
        refine rd_ofO fun x hx => ?_
        obtain ⟨cs, hcs, rfl⟩ := Option.map_eq_some_iff.1 hx
        have hpl' := placesC_spec _ _ hpl
        have hzv : i.zero = some zv := hzv
        obtain ⟨vs, g1, g2, _⟩ := fillC_ok _ hp _ _ _ (hzr ρ) hcs
        refine ⟨_, run_build w t qs vs.toArray ?_, by simp only [CV.R]; exact ⟨vs, rfl, g2⟩⟩
        unfold Program.built
        simp only [h2, h3, hzv, hpl']
        rw [← g1]
        congr 1
        funext j; simp [nth_eq]
      · exact trivial
    · rename_i n e z hk hz
      split
      · rename_i de hde
        have h3 := u_arr hd hk
        obtain ⟨zv, hzv, hzr⟩ := zeroC_spec hz
        obtain ⟨ie, hie, hsz, _⟩ := u_info hde
        refine rd_ofO fun x hx => ?_
        obtain ⟨cs, hcs, rfl⟩ := Option.map_eq_some_iff.1 hx
        have hzv : i.zero = some zv := hzv
        obtain ⟨vs, g1, g2, _⟩ := fillC_ok _ hp _ _ _ (hzr ρ) hcs
        refine ⟨_, run_build w t qs vs.toArray ?_, by simp only [CV.R]; exact ⟨vs, rfl, g2⟩⟩
        unfold Program.built
        simp only [h2, h3, hzv, hie, hsz]
        rw [← g1]
      · exact trivial
    · exact trivial
  · exact trivial
end
end Go.Proofs.YtjhaikcokbmdbaaGreatDoor.Cx
