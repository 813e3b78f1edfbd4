/-
  Closed runs: an operation does what is said of it.
-/
import Derived.Test.YtjhaikcokbmdbaaGreatDoorCxQ
namespace Go.Proofs.YtjhaikcokbmdbaaGreatDoor.Cx
open Go.RowKit Go.Proofs.YtjhaikcokbmdbaaGreatDoor.Ax

section
variable {C : Cf} {ρ : Rho} {W w : World} {H : CH}
theorem Rs_mapL {g : Operand → CV} {ev : Operand → Value} (hg : ∀ x, (g x).R ρ (ev x)) (l : List Operand) : CV.Rs ρ (mapL g l) (l.map ev) := by rw [mapL_eq]; exact Rs_map g ev hg l
theorem builtinC_ok (hS : SR W ρ H w) {g : Operand → CV} {ev : Operand → Value} (hg : ∀ x, (g x).R ρ (ev x)) (b : Builtin) (ts : Array TypeId) (args : Array Operand) (ty : TypeId) (cs : Array Bool) :
    (builtinC C.P C.T g H b ts.toList args.toList).ok C.P W ρ H w (builtin b ts ty cs (args.map ev)) := by
  obtain ⟨ts⟩ := ts
  obtain ⟨args⟩ := args
  show (builtinC C.P C.T g H b ts args).ok C.P W ρ H w _
  unfold builtinC
  split
  · rename_i t ts x xs
    rw [show (⟨x :: xs⟩ : Array Operand).map ev = (ev x :: xs.map ev).toArray by simp]
    exact Out.rd_ok hS (lenC_ok hS t (g x) (hg x) ts (xs.map ev) ty)
  · rename_i t ts x
    rw [show (⟨[x]⟩ : Array Operand).map ev = #[ev x] by simp]
    exact Out.rd_ok hS (capC_ok t (g x) (hg x) ts ty)
  · rename_i x y
    rw [show (⟨[x, y]⟩ : Array Operand).map ev = #[ev x, ev y] by simp]
    exact Out.rd_ok hS (minC_ok false (g x) (g y) (hg x) (hg y) ts.toArray ty)
  · rename_i x y
    rw [show (⟨[x, y]⟩ : Array Operand).map ev = #[ev x, ev y] by simp]
    exact Out.rd_ok hS (minC_ok true (g x) (g y) (hg x) (hg y) ts.toArray ty)
  · rename_i t t2 s x
    rw [show (⟨[s, x]⟩ : Array Operand).map ev = #[ev s, ev x] by simp]
    exact Out.wr_ok (appC_ok hS t t2 ty (g s) (g x) (hg s) (hg x))
  · rename_i t ts d x
    rw [show (⟨[d, x]⟩ : Array Operand).map ev = #[ev d, ev x] by simp]
    exact Out.wr_ok (copyC_ok hS t (g d) (g x) (hg d) (hg x) ts ty)
  · rename_i t ts m k
    rw [show (⟨[m, k]⟩ : Array Operand).map ev = #[ev m, ev k] by simp]
    exact Out.wr_ok (delC_ok C.lo hS t (g m) (g k) (hg m) (hg k) ts ty)
  · rename_i t ts x
    rw [show (⟨[x]⟩ : Array Operand).map ev = #[ev x] by simp]
    exact Out.wr_ok (clearC_ok hS t (g x) (hg x) ts ty)
  · exact trivial
theorem calleeO_ok (hS : SR W ρ H w) {g : Operand → CV} {ev : Operand → Value} (hg : ∀ x, (g x).R ρ (ev x)) (c : Call) (ty : TypeId) :
    (calleeO C g H c).ok C.P W ρ H w (do let d ← resolve ev c ty; invoke d.target d.args) := by
  obtain ⟨callee, ⟨al⟩, ts⟩ := c
  unfold calleeO
  split
  · rename_i b hc
    simp only at hc
    subst hc
    exact builtinC_ok hS hg b ts ⟨al⟩ ty _
  · rename_i f hc
    simp only at hc
    subst hc
    have hf := hg f
    have ha := Rs_mapL hg al
    unfold callM
    split
    · rename_i n t x c he
      rw [he] at hf
      simp only [CV.R, CV.Rs] at hf
      obtain ⟨as, cs, e, ⟨u0, us, rfl, ⟨u, e1, hu⟩, rfl⟩, rc⟩ := hf
      subst e1
      split
      · rename_i f' hm
        refine ⟨u :: al.map ev, ?_, by simp only [CV.Rs]; exact ⟨_, _, rfl, hu, ha⟩⟩
        have := methC_ok (w := w) hm u ((⟨al⟩ : Array Operand).map ev)
        have e0 : (#[u] ++ (⟨al⟩ : Array Operand).map ev) = (u :: al.map ev).toArray := by
          apply Array.ext'
          simp
        rw [e0] at this
        rw [← this]
        have e1 : (#[Value.iface t u] ++ (⟨al⟩ : Array Operand).map ev).extract 1 (#[Value.iface t u] ++ (⟨al⟩ : Array Operand).map ev).size = (⟨al⟩ : Array Operand).map ev := by
          apply Array.ext'
          simp [List.take_of_length_le]
        have e2 : (#[Value.iface t u] ++ (⟨al⟩ : Array Operand).map ev)[0]? = some (.iface t u) := by simp
        simp only [resolve, e, Sem.run_bind, Sem.run_pure, Result.andThen_ok, Deferred.ofValue, invoke, e1, e2]
      · exact trivial
    · unfold callC
      split
      · rename_i f' he
        rw [he] at hf
        simp only [CV.R] at hf
        refine ⟨al.map ev, ?_, ha⟩
        simp [resolve, hf, Deferred.ofValue, invoke]
      · rename_i f' a c he
        rw [he] at hf
        simp only [CV.R] at hf
        obtain ⟨as, cs, e, ra, rc⟩ := hf
        refine ⟨as ++ (al.map ev ++ cs), ?_, by rw [catL_eq, catL_eq]; exact Rs_append ra (Rs_append ha rc)⟩
        simp [resolve, e, Deferred.ofValue, invoke]
      · rename_i h he
        rw [he] at hf
        simp only [CV.R] at hf
        obtain ⟨b, m, h1, e⟩ := hf
        refine ⟨b, m, al.map ev, h1, ?_, ha⟩
        simp [resolve, e, Deferred.ofValue, invoke]
      · exact trivial
  · rename_i r name hc
    simp only at hc
    subst hc
    have hr := hg r
    have ha := Rs_mapL hg al
    unfold invO
    split
    · rename_i t x he
      rw [he] at hr
      simp only [CV.R] at hr
      obtain ⟨u, e, hu⟩ := hr
      split
      · rename_i f hm
        refine ⟨u :: al.map ev, ?_, by simp only [CV.Rs]; exact ⟨_, _, rfl, hu, ha⟩⟩
        have := methC_ok (w := w) hm u ((⟨al⟩ : Array Operand).map ev)
        have e0 : (#[u] ++ (⟨al⟩ : Array Operand).map ev) = (u :: al.map ev).toArray := by
          apply Array.ext'
          simp
        rw [e0] at this
        rw [← this]
        have e1 : (#[Value.iface t u] ++ (⟨al⟩ : Array Operand).map ev).extract 1 (#[Value.iface t u] ++ (⟨al⟩ : Array Operand).map ev).size = (⟨al⟩ : Array Operand).map ev := by
          apply Array.ext'
          simp [List.take_of_length_le]
        have e2 : (#[Value.iface t u] ++ (⟨al⟩ : Array Operand).map ev)[0]? = some (.iface t u) := by simp
        simp only [resolve, e, Sem.run_bind, Sem.run_pure, Result.andThen_ok, invoke, e1, e2]
      · exact trivial
    · exact trivial
theorem opC_ok (hG : GOk C.G W) (hS : SR W ρ H w) {g : Operand → CV} {ev : Operand → Value} (hg : ∀ x, (g x).R ρ (ev x)) (_ : ∀ v, ev (.const v) = v) (o : Oper) : (opC C g H o.op).ok C.P W ρ H w (execOp ev o) := by
  obtain ⟨dst, op, type, pos, after, guard⟩ := o
  cases op
  case move x => exact here hS (by simp [execOp]) (hg x)
  case assign x => exact here hS (by simp [execOp]) (hg x)
  case pick c a b =>
    show (pickO (g c) (g a) (g b)).ok C.P W ρ H w _
    unfold pickO
    split
    · rename_i t he
      have h := hg c
      rw [he] at h
      simp only [CV.R] at h
      cases t
      · exact here hS (by simp [execOp, h, asBool]) (hg b)
      · exact here hS (by simp [execOp, h, asBool]) (hg a)
    · exact trivial
  case alloc e => exact Out.wr_ok (allocO_ok hS e)
  case box e x => exact Out.wr_ok (boxO_ok hS e (g x) (hg x))
  case build t ps => exact Out.rd_ok hS (buildC_ok t (by simpa using PRs_map hg ps.toList))
  case buildSlice t n ps => exact Out.wr_ok (bsliceC_ok hS t n (by simpa using PRs_map hg ps.toList))
  case insert t m k x => exact Out.wu_ok (updC_ok C.lo hS t (g m) (g k) (g x) (hg m) (hg k) (hg x))
  case load t a => exact Out.rd_ok hS (loadC_ok hG hS t (g a) (hg a))
  case store t a x => exact Out.wu_ok (storeC_ok hS t (g a) (g x) (hg a) (hg x))
  case nilCheck x =>
    show (nilM C.P (g x)).ok C.P W ρ H w _
    have h := hg x
    unfold nilM
    split
    · rename_i n t y c he
      rw [he] at h
      have h' := h
      simp only [CV.R, CV.Rs] at h
      obtain ⟨as, cs, e, ⟨u0, us, rfl, ⟨u, e1, hu⟩, rfl⟩, rc⟩ := h
      subst e1
      split
      · rename_i f' hm
        refine here hS ?_ h'
        have hn := methC_nil (w := w) hm u
        simp [execOp, e, hn]
      · exact trivial
    · unfold nilCk
      split
      · rename_i he
        rw [he] at h ⊢
        have h' := h
        simp only [CV.R] at h
        obtain ⟨b, m, h1, e⟩ := h
        exact here hS (by simp [execOp, e]) h'
      · rename_i he
        rw [he] at h ⊢
        have h' := h
        simp only [CV.R] at h
        exact here hS (by simp [execOp, h]) h'
      · rename_i he
        rw [he] at h ⊢
        have h' := h
        simp only [CV.R] at h
        obtain ⟨as, cs, e, _⟩ := h
        exact here hS (by simp [execOp, e]) h'
      · rename_i he
        rw [he] at h ⊢
        have h' := h
        simp only [CV.R] at h
        exact here hS (by simp [execOp, h]) h'
      · exact trivial
  case binOp op t x y yt =>
    refine Out.rd_ok hS (binC_ok (cstO x || cstO y) op t (g x) (g y) (hg x) (hg y) x y fun h => ?_)
    rw [Bool.or_eq_true] at h
    refine h.imp (fun h => ?_) fun h => ?_
    · cases x <;> first | exact ⟨_, rfl⟩ | cases h
    · cases y <;> first | exact ⟨_, rfl⟩ | cases h
  case unOp op t x => exact Out.rd_ok hS (unO_ok op (g x) (hg x))
  case convert s d x => exact Out.wr_ok (convC_ok hS s d (g x) (hg x))
  case sliceToArrayPointer t x => exact Out.rd_ok hS (s2aO_ok t (g x) (hg x))
  case makeInterface t x => exact Out.rd_ok hS (ifcC_ok t (g x) (hg x))
  case makeFunc fn f c =>
    refine ⟨.func fn (f.map ev) (c.map ev), w, ρ, .inl (by simp [execOp, Instr.makeFunc]), Rho.le.refl _, hS, ?_⟩
    simp only [CV.R]
    exact ⟨f.toList.map ev, c.toList.map ev, by congr 1 <;> (apply Array.ext'; simp), Rs_mapL hg _, Rs_mapL hg _⟩
  case makeMap t r =>
    cases r with
    | some r => exact trivial
    | none => exact Out.wr_ok (mmapO_ok hS t)
  case makeSlice t l c => exact Out.wr_ok (msliceC_ok hS t (g l) (g c) (hg l) (hg c))
  case slice t x lo hi mx =>
    show (sliceO C.T H g t x lo hi mx).ok C.P W ρ H w _
    unfold sliceO
    cases hb : (mx.isSome && !hi.isSome) with
    | true => exact trivial
    | false =>
      refine Out.rd_ok hS (sliceC_ok hS hg t (g x) lo hi mx (hg x) fun h => ?_)
      rw [h] at hb
      simpa using hb
  case fieldAddr t x f => exact Out.rd_ok hS (faddrC_ok t f (g x) (hg x))
  case field t x f => exact Out.rd_ok hS (fieldO_ok t f (g x) (hg x))
  case indexAddr t x i => exact Out.rd_ok hS (iaddrC_ok t (g x) (g i) (hg x) (hg i))
  case index t x i => exact Out.rd_ok hS (indexC_ok t (g x) (g i) (hg x) (hg i))
  case lookup t m k ok => exact Out.rd_ok hS (lookC_ok C.lo hS t (g m) (g k) ok (hg m) (hg k))
  case mapUpdate t m k x => exact Out.wu_ok (updC_ok C.lo hS t (g m) (g k) (g x) (hg m) (hg k) (hg x))
  case mapEntry t m k => exact Out.wr_ok (mentC_ok C.lo hS t (g m) (g k) (hg m) (hg k))
  case entryStore t m s x => exact Out.wu_ok (estC_ok hS t (g m) (g s) (g x) (hg m) (hg s) (hg x))
  case range t x => exact Out.wr_ok (rangeC_ok hS t (g x) (hg x))
  case next it s => exact Out.wr_ok (nextC_ok hS (g it) s type (hg it))
  case entry it => exact Out.rd_ok hS (entryC_ok hS (g it) (hg it))
  case typeAssert x xt t ok => exact Out.rd_ok hS (assertC_ok t xt ok (g x) (hg x))
  case extract t i => exact Out.rd_ok hS (extrO_ok (g t) i (hg t))
  case call c => exact calleeO_ok hS hg c type
  case panic x =>
    show (panO (g x)).ok C.P W ρ H w _
    have h := hg x
    unfold panO
    split
    · rename_i t y he
      rw [he] at h
      have h' := h
      simp only [CV.R] at h
      obtain ⟨u, e, _⟩ := h
      exact ⟨ev x, by simp [execOp, e, Instr.panic], h'⟩
    · exact trivial
  all_goals exact trivial
end
end Go.Proofs.YtjhaikcokbmdbaaGreatDoor.Cx
