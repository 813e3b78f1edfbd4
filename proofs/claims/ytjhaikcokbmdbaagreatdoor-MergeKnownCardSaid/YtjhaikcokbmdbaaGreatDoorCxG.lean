/-
  Closed runs: operations that read.
-/
import Derived.Test.YtjhaikcokbmdbaaGreatDoorCxF
namespace Go.Proofs.YtjhaikcokbmdbaaGreatDoor.Cx
open Go.RowKit Go.Proofs.YtjhaikcokbmdbaaGreatDoor.Ax

section
variable {P : Program} {ρ : Rho} {W w : World} {H : CH}
theorem R_str' {l : List Nat} {v : Value} (h : (CV.str l).R ρ v) : (∀ c ∈ l, c < 256) ∧ v = .string ⟨(u8s l).toArray⟩ := by simp only [CV.R] at h; exact h
/-- What may stand on both sides of a comparison that is neither of integers nor of strings. -/
inductive Pair : Value → Value → Prop where
  | bool (a b : Bool) : Pair (.bool a) (.bool b)
  | agg (a b : Array Value) : Pair (.agg a) (.agg b)
  | ptr (a b : Option Addr) : Pair (.pointer a) (.pointer b)
  | map (a b : Option Nat) : Pair (.map a) (.map b)
  | sl (a b : Option Addr) (n c m d : Nat) : Pair (.slice a n c) (.slice b m d)
  | nn : Pair .nilIface .nilIface
  | ni (t : TypeId) (x : Value) : Pair .nilIface (.iface t x)
  | in_ (t : TypeId) (x : Value) : Pair (.iface t x) .nilIface
theorem nilP_ifc {x : CV} (h : nilP .ifc x = some true) : x = .v .nilIface := by
  unfold nilP at h
  split at h <;> first | (cases h; done) | skip
  all_goals first | rfl | skip
  all_goals (rename_i hk; cases hk)
theorem eqT_pair {f t : Nat} {x y : CV} {u v : Value} {r : Bool} (hx : x.R ρ u) (hy : y.R ρ v) (h : eqT (mkTD P) f t x y = some r) (h1 : ∀ k a j b, x = .int k a → y = .int j b → False) (h2 : ∀ a b, x = .str a → y = .str b → False) :
    Pair u v ∧ (∀ as bs, u = .agg as → v = .agg bs → ∃ xs ys, x = .agg xs ∧ y = .agg ys) ∧ (u = .nilIface → v = .nilIface → x = .v .nilIface ∧ y = .v .nilIface) := by
  cases f with
  | zero => cases h
  | succ f =>
    unfold eqT at h
    simp only at h
    split at h
    · cases h
    · rename_i d hd
      split at h
      · cases h
      · cases h
      · cases x <;> first | (cases h; done) | skip
        cases y <;> first | (cases h; done) | skip
        simp only [CV.R] at hx hy
        subst hx hy
        exact ⟨.bool _ _, fun _ _ e => (by cases e), fun e => (by cases e)⟩
      · cases x <;> first | (cases h; done) | skip
        cases y <;> first | (cases h; done) | skip
        simp only [CV.R] at hx hy
        obtain ⟨as, rfl, _⟩ := hx
        obtain ⟨bs, rfl, _⟩ := hy
        exact ⟨.agg _ _, fun _ _ _ _ => ⟨_, _, rfl, rfl⟩, fun e => (by cases e)⟩
      · cases x <;> first | (cases h; done) | skip
        cases y <;> first | (cases h; done) | skip
        simp only [CV.R] at hx hy
        obtain ⟨as, rfl, _⟩ := hx
        obtain ⟨bs, rfl, _⟩ := hy
        exact ⟨.agg _ _, fun _ _ _ _ => ⟨_, _, rfl, rfl⟩, fun e => (by cases e)⟩
      · have : ∃ a b, nilP d.k x = some a ∧ nilP d.k y = some b ∧ (a = true ∨ b = true) := by
          split at h
          · rename_i b ha hb; exact ⟨_, _, ha, hb, .inl rfl⟩
          · rename_i ha hb; exact ⟨_, _, ha, hb, .inr rfl⟩
          · cases h
        obtain ⟨a, b, ha, hb, hab⟩ := this
        rcases nilP_spec ha hx with ⟨e, p, hk, rfl, e1⟩ | ⟨e, g, p, hk, rfl, e1⟩ | ⟨e, A, n, c, hk, rfl, e1⟩ | ⟨hk, hx'⟩ <;>
          rcases nilP_spec hb hy with ⟨e', q, hk', rfl, e2⟩ | ⟨e', g', q, hk', rfl, e2⟩ | ⟨e', B, n', c', hk', rfl, e2⟩ | ⟨hk', hy'⟩ <;> try (rw [hk] at hk'; cases hk'; done)
        · exact ⟨.ptr _ _, fun _ _ e => (by cases e), fun e => (by cases e)⟩
        · exact ⟨.map _ _, fun _ _ e => (by cases e), fun e => (by cases e)⟩
        · exact ⟨.sl _ _ _ _ _ _, fun _ _ e => (by cases e), fun e => (by cases e)⟩
        · rw [hk] at ha hb
          rcases hx' with ⟨rfl, rfl⟩ | ⟨s, z, rfl, rfl⟩ <;> rcases hy' with ⟨rfl, rfl⟩ | ⟨s', z', rfl, rfl⟩
          · exact ⟨.nn, fun _ _ e => (by cases e), fun _ _ => ⟨nilP_ifc ha, nilP_ifc hb⟩⟩
          · exact ⟨.ni _ _, fun _ _ e => (by cases e), fun _ e => (by cases e)⟩
          · exact ⟨.in_ _ _, fun _ _ e => (by cases e), fun e => (by cases e)⟩
          · rcases hab with hab | hab <;> cases hab
theorem Pair.eql {u v : Value} (h : Pair u v) (t : TypeId) : binOp .eql t u v = (do pure (.bool (← Op.equal t u v))) ∧ binOp .neq t u v = (do pure (.bool (!(← Op.equal t u v)))) := by
  cases h <;> exact ⟨rfl, rfl⟩
theorem aggOk_guard {t : Nat} (h : aggOk (mkTD P) t = true) : P.eqGuardType P.depth t = false := by
  unfold aggOk at h
  split at h
  · rename_i d hd
    split at h
    · rename_i fs hk
      obtain ⟨u, i, h1, _, h3⟩ := mkTD_spec hd
      have h4 : eqB P t = true := by rw [← h, h3]
      unfold eqB at h4
      rw [h1] at h4
      obtain ⟨fa, h5, _⟩ := u_st hd hk
      rw [h1] at h5
      cases h5
      simp only [Bool.and_eq_true, Bool.not_eq_true'] at h4
      exact h4.1.1
    · rename_i n e hk
      split at h
      · rename_i de hde
        split at h
        · rename_i k hk2
          have h1 := u_arr hd hk
          have h2 := u_int hde hk2
          have hdep : P.depth = (2 * (P.types.size + Made.depth)) + 1 + 1 := rfl
          rw [hdep]
          simp only [Program.eqGuardType, h1, h2]
        · cases h
      · cases h
    · cases h
  · cases h
theorem binC_ok (cst : Bool) (op : BinOp) (t : Nat) (x y : CV) {a b : Value} (hx : x.R ρ a) (hy : y.R ρ b) (px py : Operand) (hc : cst = true → (∃ v, px = .const v) ∨ ∃ v, py = .const v) :
    (binC (mkTD P) cst op t x y).rd P ρ w (do eqGuard op t px py a b; binOp op t a b) := by
  have pass : ∀ {o : Out}, (eqGuard op t px py a b).run P w = .ok () w → o.rd P ρ w (binOp op t a b) → o.rd P ρ w (do eqGuard op t px py a b; binOp op t a b) := by
    intro o hg ho
    unfold Out.rd at ho ⊢
    split at ho
    · exact trivial
    · obtain ⟨u, h1, h2⟩ := ho; exact ⟨u, by simpa [Sem.run_bind, hg] using h1, h2⟩
    · obtain ⟨u, h1, h2⟩ := ho; exact ⟨u, by simpa [Sem.run_bind, hg] using h1, h2⟩
    · exact ho.elim
  unfold binC
  split
  · rename_i k n j m
    simp only [CV.R] at hx hy
    subst hx hy
    refine pass (by cases op <;> simp [eqGuard]) ?_
    split
    · cases hb : posI m with
      | false => exact trivial
      | true =>
        obtain ⟨m, rfl⟩ : ∃ q, m = Int.ofNat q := by cases m <;> first | exact ⟨_, rfl⟩ | cases hb
        have h0 : ¬ ((m : Int) < 0) := by omega
        simp only [cond_true]
        exact rd_int (n := k.wrap (n * 2 ^ (min (Int.ofNat m).toNat k.bits))) (by simp [binOp, Op.shift, h0]) (shlN_eq ..)
    · cases hb : posI m with
      | false => exact trivial
      | true =>
        obtain ⟨m, rfl⟩ : ∃ q, m = Int.ofNat q := by cases m <;> first | exact ⟨_, rfl⟩ | cases hb
        have h0 : ¬ ((m : Int) < 0) := by omega
        simp only [cond_true]
        exact rd_int (n := n.fdiv (2 ^ (min (Int.ofNat m).toNat k.bits))) (by simp [binOp, Op.shift, h0]) (shrN_eq ..)
    · cases he : eqK k j with
      | false => exact trivial
      | true => have := eqK_spec he; subst this; exact intC_ok op k n m t
  · rename_i l m
    obtain ⟨h1, rfl⟩ := R_str' hx
    obtain ⟨h2, rfl⟩ := R_str' hy
    exact pass (by cases op <;> simp [eqGuard]) (strC_ok op h1 h2 t)
  · rename_i hn1 hn2
    cases hbn : gOk (mkTD P) cst t x y with
    | false => exact trivial
    | true =>
      simp only [Bool.not_true, cond_false]
      cases he : eqT (mkTD P) 6 t x y with
      | none => cases op <;> exact trivial
      | some r =>
        have hr := fun n hn => eqT_run (P := P) (w := w) 6 t x y a b r n hn hx hy he
        have heq : (Op.equal t a b).run P w = .ok r w := hr Op.maxDepth (by decide)
        obtain ⟨hp, hp1, hp2⟩ := eqT_pair hx hy he (fun k a j b e1 e2 => hn1 k a j b e1 e2) (fun a b e1 e2 => hn2 a b e1 e2)
        have hg : op = .eql ∨ op = .neq → (eqGuard op t px py a b).run P w = .ok () w := fun ho => by
          cases hp with
          | agg as bs =>
            refine run_eqGuard_agg w _ _ _ _ _ _ ?_
            obtain ⟨xs, ys, rfl, rfl⟩ := hp1 _ _ rfl rfl
            exact aggOk_guard hbn
          | nn =>
            obtain ⟨rfl, rfl⟩ := hp2 rfl rfl
            rcases hc hbn with ⟨z, rfl⟩ | ⟨z, rfl⟩ <;> rcases ho with rfl | rfl <;> simp [eqGuard]
          | _ => rcases ho with rfl | rfl <;> simp [eqGuard]
        cases op <;> try exact trivial
        · refine pass (hg (.inl rfl)) ?_
          rw [(hp.eql t).1]
          exact rd_bool (b := r) (by simp [heq]) rfl
        · refine pass (hg (.inr rfl)) ?_
          rw [(hp.eql t).2]
          exact rd_bool (b := !r) (by simp [heq]) rfl
end
end Go.Proofs.YtjhaikcokbmdbaaGreatDoor.Cx
