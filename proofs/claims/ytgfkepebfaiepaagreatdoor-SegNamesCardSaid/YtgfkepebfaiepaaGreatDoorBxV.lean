/-
  Bodies of functions; contracts at other handles; states that say less.
-/
import Derived.Test.YtgfkepebfaiepaaGreatDoorBxU
namespace Go.Proofs.YtgfkepebfaiepaaGreatDoor.Ax
open Go.RowKit
def resA (e : Env) : List ResultVar → Option AV
 | [] => some (.tup [])
 | [.tmp t] => some (e.get t)
 | [.tmp t, .tmp u] => some (.tup [e.get t, e.get u])
 | [.tmp t, .tmp u, .tmp v] => some (.tup [e.get t, e.get u, e.get v])
 | _ => none
def envOf (n : Nat) : List AV → Env
 | [] => []
 | x :: xs => (n, x) :: envOf (n + 1) xs
noncomputable def finL (T : TT) (H : AH) (e : Env) (rs : List ResultVar) : (List AV → Prop) → Prop :=
 List.rec (motive := fun _ => (List AV → Prop) → Prop) (fun k => k []) (fun r _ ih k => match r with
  | .tmp t => ih fun l => k (e.get t :: l)
  | .cell a t => (loadA T H t (e.get a)).K fun v => ih fun l => k (v :: l)) rs
noncomputable def finK (T : TT) (rs : List ResultVar) (K : AV → AH → Prop) (e : Env) (H : AH) : Prop :=
 match rs with
 | [.cell a t] => (loadA T H t (e.get a)).K fun r => K r H
 | rs => match resA e rs with
   | some r => K r H
   | none => match rs with
     | _ :: _ :: _ => finL T H e rs fun l => K (.tup l) H
     | _ => False
section
variable {C : Cfg} {ρ : Rho} {ι : Imm} {w : World} {H : AH}
theorem envOf_get : ∀ (args : List AV) (vs : List Value) (n t : Nat) (rest : List Value), AV.Rs ρ ι args vs → n ≤ t → ((envOf n args).get t).R ρ ι ((vs ++ rest).getD (t - n) undef)
 | [], vs, n, t, rest, h, ht => by simp [envOf, Env.get, AV.R]
 | x :: xs, vs, n, t, rest, h, ht => by
   simp only [AV.Rs] at h
   obtain ⟨u, us, rfl, r, rs⟩ := h
   simp only [envOf, Env.get]
   cases hb : Nat.beq n t with
   | true =>
     have := Nat.eq_of_beq_eq_true hb
     subst this
     simpa using r
   | false =>
     have hne : n ≠ t := fun e => by rw [e] at hb; simp at hb
     simp only [cond_false, List.cons_append]
     have h1 : t - n = (t - (n + 1)) + 1 := by omega
     rw [h1, List.getD_cons_succ]
     exact envOf_get xs us (n + 1) t rest rs (by omega)
theorem resA_run {fn : Func} {N : Nat} {e : Env} {a : Act} {P : Program} (hE : ER ρ ι N e a) {r : AV} (h : resA e fn.results.toList = some r) : ∃ v, (results fn a.tmps).run P w = .ok v w ∧ r.R ρ ι v := by
 have hs := hE.slot
 generalize hrs : fn.results = R at h
 obtain ⟨l⟩ := R
 simp only at h
 unfold resA at h
 split at h
 ·injection h with h; subst h
  exact ⟨.tuple #[], by simp [results, hrs], by simp [AV.R, AV.Rs]⟩
 ·rename_i t
  injection h with h; subst h
  exact ⟨_, by simp [results, hrs]; rfl, by simpa using hs t⟩
 ·rename_i t u
  injection h with h; subst h
  exact ⟨.tuple #[a.tmps.getD t undef, a.tmps.getD u undef], by simp [results, hrs], by simp only [AV.R, AV.Rs]; exact ⟨_, rfl, _, _, rfl, hs t, _, _, rfl, hs u, rfl⟩⟩
 ·rename_i t u v
  injection h with h; subst h
  exact ⟨.tuple #[a.tmps.getD t undef, a.tmps.getD u undef, a.tmps.getD v undef], by simp [results, hrs], by simp only [AV.R, AV.Rs]; exact ⟨_, rfl, _, _, rfl, hs t, _, _, rfl, hs u, _, _, rfl, hs v, rfl⟩⟩
 ·cases h
theorem loadVar_of {P : Program} {t : TypeId} {x u : Value} (h : (Instr.loadAt t x).run P w = .ok u w) : (do loadVar t (← asAddr x) : Sem Value).run P w = .ok u w := by
 cases x with
 | pointer a => cases a with
   | some a => simpa [Instr.loadAt, Instr.sureAddr, asAddr] using h
   | none => simp [Instr.loadAt, Instr.sureAddr] at h
 | _ => simp [Instr.loadAt, Instr.sureAddr] at h
def resG (tmps : Array Value) (r : ResultVar) : Sem Value := match r with
 | .tmp t => pure (tmps.getD t undef)
 | .cell a t => do loadVar t (← asAddr (tmps.getD a undef))
theorem results_eq (fn : Func) (tmps : Array Value) : results fn tmps = (do
 let vs ← fn.results.mapM (resG tmps)
 pure (if h : vs.size = 1 then vs[0] else .tuple vs)) := by
 have : resG tmps = (fun
  | .tmp t => pure (tmps.getD t undef)
  | .cell a t => do loadVar t (← asAddr (tmps.getD a undef))) := by
  funext r
  cases r <;> rfl
 rw [this]
 rfl
theorem cell_run {N : Nat} {e : Env} {a : Act} {P : Program} {T : TT} (hT : TOk P T) (hS : SR ρ ι H w) (hE : ER ρ ι N e a) {t : Nat} {ty : TypeId} {K : AV → Prop} (h : (loadA T H ty (e.get t)).K K) : ∃ u r, (resG a.tmps (.cell t ty)).run P w = .ok u w ∧ r.R ρ ι u ∧ K r := by
 obtain ⟨u, r, h1, h2, h3⟩ := yields_of (s := do pure (.value (← Instr.loadAt ty (a.tmps.getD t undef)))) (loadA_ok hT hS ty (e.get t) (hE.slot t)) (fun u h => by simp only [Sem.run_bind, h]; rfl) _ h
 have h4 : (Instr.loadAt ty (a.tmps.getD t undef)).run P w = .ok u w := by
  simp only [Sem.run_bind] at h1
  cases hh : (Instr.loadAt ty (a.tmps.getD t undef)).run P w with
  | ok x w' => rw [hh] at h1; simp at h1; obtain ⟨rfl, rfl⟩ := h1; rfl
  | _ => rw [hh] at h1; simp at h1
 exact ⟨u, r, loadVar_of h4, h2, h3⟩
theorem finL_run {N : Nat} {e : Env} {a : Act} {P : Program} {T : TT} (hT : TOk P T) (hS : SR ρ ι H w) (hE : ER ρ ι N e a) : ∀ (rs : List ResultVar) (k : List AV → Prop), finL T H e rs k → ∃ us l, (rs.mapM (resG a.tmps)).run P w = .ok us w ∧ AV.Rs ρ ι l us ∧ us.length = rs.length ∧ k l
 | [], k, h => ⟨[], [], by simp, by simp [AV.Rs], rfl, h⟩
 | .tmp t :: rs, k, h => by
   have h : finL T H e rs (fun l => k (e.get t :: l)) := h
   obtain ⟨us, l, h1, h2, h3, h4⟩ := finL_run hT hS hE rs _ h
   refine ⟨a.tmps.getD t undef :: us, e.get t :: l, ?_, by simp only [AV.Rs]; exact ⟨_, _, rfl, hE.slot t, h2⟩, by simp [h3], h4⟩
   rw [List.mapM_cons]
   simp only [Sem.run_bind]
   rw [show (resG a.tmps (.tmp t)).run P w = .ok (a.tmps.getD t undef) w from rfl]
   simp only [Result.andThen_ok]
   rw [h1]
   rfl
 | .cell t ty :: rs, k, h => by
   have h : (loadA T H ty (e.get t)).K (fun v => finL T H e rs fun l => k (v :: l)) := h
   obtain ⟨u, r, g1, g2, g3⟩ := cell_run hT hS hE h
   obtain ⟨us, l, h1, h2, h3, h4⟩ := finL_run hT hS hE rs _ g3
   refine ⟨u :: us, r :: l, ?_, by simp only [AV.Rs]; exact ⟨_, _, rfl, g2, h2⟩, by simp [h3], h4⟩
   rw [List.mapM_cons]
   simp only [Sem.run_bind]
   rw [g1]
   simp only [Result.andThen_ok]
   rw [h1]
   rfl
theorem finK_run {fn : Func} {N : Nat} {e : Env} {a : Act} {P : Program} {T : TT} (hT : TOk P T) (hS : SR ρ ι H w) (hE : ER ρ ι N e a) {K : AV → AH → Prop} (h : finK T fn.results.toList K e H) : ∃ v r, (results fn a.tmps).run P w = .ok v w ∧ r.R ρ ι v ∧ K r H := by
 have run : ∀ us : List Value, (fn.results.toList.mapM (resG a.tmps)).run P w = .ok us w →
  (results fn a.tmps).run P w = .ok (if h : us.toArray.size = 1 then us.toArray[0] else .tuple us.toArray) w := fun us hu => by
  rw [results_eq, Array.mapM_eq_mapM_toList]
  simp only [Sem.run_bind, Sem.run_map]
  rw [hu]
  rfl
 unfold finK at h
 split at h
 ·rename_i t ty hrs
  obtain ⟨u, r, h1, h2, h3⟩ := cell_run hT hS hE h
  refine ⟨u, r, ?_, h2, h3⟩
  rw [run [u] (by rw [hrs, List.mapM_cons, List.mapM_nil]; simp only [Sem.run_bind, h1]; rfl)]
  rfl
 ·split at h
  ·rename_i r hres
   obtain ⟨v, h1, h2⟩ := resA_run (P := P) (w := w) hE hres
   exact ⟨v, r, h1, h2, h⟩
  ·split at h
   ·rename_i hrs
    obtain ⟨us, l, h1, h2, h3, h4⟩ := finL_run hT hS hE _ _ h
    refine ⟨.tuple us.toArray, .tup l, ?_, by simp only [AV.R]; exact ⟨us, rfl, h2⟩, h4⟩
    rw [run us h1, dif_neg (by rw [List.size_toArray, h3, hrs]; simp)]
   ·exact h.elim
theorem putObj_size (w : World) (k : Nat) (o : Obj) : (w.putObj k o).heap.size = w.heap.size := by simp
theorem SR.shut (hS : SR ρ ι H w) {D : Nat} {x : Option (List Deferred)} (hD : w.heap[D]? = some (.deferred x)) (hf : ¬ H.foot ρ D) (y : Option (List Deferred)) : SR ρ ι H (w.putObj D (.deferred y)) := by
 have keep : ∀ k, k ≠ D → (w.putObj D (.deferred y)).heap[k]? = w.heap[k]? := fun k hk => World.putObj_heap_other hk
 refine ⟨fun b o v hi => ?_, hS.one, fun p hp => ?_, hS.fresh, hS.nodup, hS.apart, hS.iapart, fun p hp hv hh k hk => ?_⟩
 ·have h1 := hS.imm b o v hi
  have hne : b ≠ D := by
   rintro rfl
   simp [World.cell?, hD] at h1
  rw [← h1]
  exact World.cell?_of_block (keep b hne)
 ·obtain ⟨hv, h1, h2⟩ := hS.rel p hp
  exact ⟨hv, h1, h2.keep (Rho.le.refl _) (Imm.le.refl _) fun k hk => keep k fun e => hf (e ▸ ⟨p, hp, hv, h1, hk⟩)⟩
 ·rw [putObj_size]; exact hS.lt p hp hv hh k hk
theorem leaves_marks {P : Program} {F : Fence} {n lo : Nat} {fn : Func} {tmps : Array Value} {R : Ending → World → Prop} {u : FrameMode} (hu : u ≠ .run) : ∀ (ds : List Deferred) (w : World), Mk lo ρ H w ds → SR ρ ι H w →
 (∀ w', SR ρ ι H w' → Touch (fun k => lo ≤ k ∧ ¬ H.foot ρ k) w w' → LeavesIn F n P fn tmps R [] u w') → LeavesInM F n P fn tmps R ds u w
 | [], w, _, hS, h => h w hS (Touch.refl _ w)
 | d :: ds, w, hM, hS, h => by
   obtain ⟨h1, h2, h3⟩ := hM
   obtain ⟨D, rfl, h5, h6, h7⟩ := h3 d (List.mem_cons_self ..)
   have hs := List.nodup_cons.1 h2
   refine ⟨hu, .inl ⟨D, _, rfl, run_takeDeferred h6, ?_⟩⟩
   have ht : Touch (fun k => lo ≤ k ∧ ¬ H.foot ρ k) w (w.putObj D (.deferred none)) := ⟨rfl, rfl, rfl, by rw [putObj_size]; exact Nat.le_refl _, fun k _ hk => World.putObj_heap_other fun e => hk (e ▸ ⟨h5, h7⟩)⟩
   refine leaves_marks hu ds _ ⟨by rw [putObj_size]; exact h1, hs.2, fun d' hd' => ?_⟩ (hS.shut h6 h7 none) fun w' hS' ht' => h w' hS' ⟨ht'.os.trans ht.os, ht'.tape.trans ht.tape, ht'.output.trans ht.output, Nat.le_trans ht.size ht'.size, fun k hk hn => (ht'.block k (Nat.lt_of_lt_of_le hk ht.size) hn).trans (ht.block k hk hn)⟩
   obtain ⟨D', e1, e2, e3, e4⟩ := h3 d' (List.mem_cons_of_mem _ hd')
   refine ⟨D', e1, e2, ?_, e4⟩
   rw [World.putObj_heap_other (fun e => hs.1 (by rw [← e, ← e1]; exact hd'))]
   exact e3
theorem ACall.body (hC : C.Ok) {f : FuncId} {fn : Func} {c : Code} {args : List AV} {H : AH} {K QP : AV → AH → Prop} (hf : C.P.funcs[f]? = some fn) (hname : (fn.name == "runtime.NumGoroutine") = false) (hb : fn.body = some c) (hN : fn.ntmps = C.N) (hl : Nat.ble args.length C.N = true) (hbase : Nat.ble H.next C.base = true)
 (h : AWP C c (envOf 0 args) H ⟨finK C.T fn.results.toList K, fun _ _ _ => False, finK C.T fn.results.toList K, QP⟩) (hro : C.ro = none := by rfl) : ACall C.P f args H K QP := by
 refine ⟨⟨fn, hf, hname, by rw [hb]; rfl⟩, fun ρ ι w cargs hG hS hr => callsIn_wide.1 (callsIn_of_wp_marks (n := 0) hf hb trivial ?_)⟩
 have hlen := Rs_lenA _ _ hr
 have hle := Nat.le_of_ble_eq_true hl
 have hE : ER ρ ι C.N (envOf 0 args) { tmps := cargs.toArray ++ Array.replicate (fn.ntmps - cargs.toArray.size) undef, defers := [] } := by
  refine ⟨hG, by simp; omega, fun t => ?_⟩
  have := envOf_get args cargs 0 t (List.replicate (fn.ntmps - cargs.length) undef) hr (Nat.zero_le _)
  have e1 : (cargs.toArray ++ Array.replicate (fn.ntmps - cargs.toArray.size) undef : Array Value) = (cargs ++ List.replicate (fn.ntmps - cargs.length) undef).toArray := by
   apply Array.ext'; simp
  rw [e1]
  simpa [List.getD] using this
 have h0 := h.run w.heap.size ρ ι _ w hE hS (Mk.nil (Nat.le_refl _))
 rw [hro] at h0
 refine wpIn_mono h0 fun ex a' w' hq => ?_
 have full : ∀ {ρ' ι' H' w''}, WentB C.base ρ ι H w ρ' ι' H' w' → Touch (fun k => w.heap.size ≤ k ∧ ¬ H'.foot ρ' k) w' w'' → Went ρ ι H w ρ' ι' H' w'' := fun hw ht => ⟨⟨ht.os.trans hw.touch.os, ht.tape.trans hw.touch.tape, ht.output.trans hw.touch.output, Nat.le_trans hw.touch.size ht.size, fun k hk hn => (ht.block k (Nat.lt_of_lt_of_le hk hw.touch.size) fun x => absurd x.1 (Nat.not_le.2 hk)).trans (hw.touch.block k hk hn)⟩, hw.grow, hw.imm, hw.immNew, fun h hv hh => hw.agree h hv (by
  rcases Nat.lt_or_ge h H.next with h1 | h1
  ·have := Nat.le_of_ble_eq_true hbase; omega
  ·rw [hS.fresh h h1] at hh; cases hh) hh⟩
 have fin : LiftE (finK C.T fn.results.toList K) C.N C.base w.heap.size ρ ι H w a' w' → LeavesInM Fence.wide 0 C.P fn a'.tmps (CPost K QP ρ ι H w) a'.defers .returning w' := fun hl => by
  obtain ⟨e', H', ρ', ι', k, p1, p2, p3, m⟩ := hl
  refine leaves_marks (by simp) a'.defers w' m p2 fun w'' hS'' ht => ?_
  obtain ⟨v, r, h1, h2, h3⟩ := finK_run hC.T hS'' p1 k
  exact ⟨v, h1, r, H', ρ', ι', h3, h2, hS'', full p3 ht⟩
 cases ex with
 | normal => exact fin hq
 | ret => exact fin hq
 | exit id => obtain ⟨_, _, _, _, k, _⟩ := hq; exact k.elim
 | goto l => exact hq.elim
 | panic ch =>
   obtain ⟨v, rfl, r, H', ρ', ι', a1, a2, a3, a4, m⟩ := hq
   exact leaves_marks (by simp) a'.defers w' m a3 fun w'' hS'' ht => ⟨v, rfl, r, H', ρ', ι', a1, a2, hS'', full a4 ht⟩
 | outgrown => exact hq.elim
end
mutual
def AV.ren (σ : Nat → Nat) : AV → AV
 | .iv x => .iv x
 | .ptr h off => .ptr (σ h) off
 | .el h sz i fo => .el (σ h) sz i fo
 | .row h sz off len => .row (σ h) sz off len
 | .mp h => .mp (σ h)
 | .agg cs => .agg (AV.rens σ cs)
 | .tup cs => .tup (AV.rens σ cs)
 | .ifc t x => .ifc t (AV.ren σ x)
 | .fnc fn a c => .fnc fn (AV.rens σ a) (AV.rens σ c)
 | .pp cs => .pp (AV.rens σ cs)
 | .sl sz n f => .sl sz n (fun i => AV.rens σ (f i))
 | .junk => .junk
 | .anyb => .anyb
def AV.rens (σ : Nat → Nat) : List AV → List AV
 | [] => []
 | x :: xs => AV.ren σ x :: AV.rens σ xs
end
def Chunk.ren (σ : Nat → Nat) : Chunk → Chunk
 | .cells e cs => .cells e (AV.rens σ cs)
 | .rowc e sz n f => .rowc e sz n f
 | .brow e l => .brow e l
 | .map kk m => .map kk m
 | .maph kk m => .maph kk (m.map fun p => (p.1, p.2.ren σ))
 | .icells cs => .icells cs
 | .gmap g kk m es clock => .gmap g kk m es clock
 | .mapit kk m left i la => .mapit kk m left (σ i) la
 | .sem S => .sem S
mutual
theorem AV.ren_R (σ : Nat → Nat) (ρ : Rho) (ι : Imm) : ∀ (x : AV) (v : Value), (x.ren σ).R ρ ι v ↔ x.R (fun h => ρ (σ h)) ι v
 | .iv x, v => by simp only [AV.ren, AV.R]
 | .ptr h off, v => by simp only [AV.ren, AV.R]
 | .el h sz i fo, v => by simp only [AV.ren, AV.R]
 | .row h sz off len, v => by simp only [AV.ren, AV.R]
 | .mp h, v => by simp only [AV.ren, AV.R]
 | .agg cs, v => by simp only [AV.ren, AV.R, AV.rens_R σ ρ ι cs]
 | .tup cs, v => by simp only [AV.ren, AV.R, AV.rens_R σ ρ ι cs]
 | .ifc t x, v => by simp only [AV.ren, AV.R, AV.ren_R σ ρ ι x]
 | .fnc fn a c, v => by simp only [AV.ren, AV.R, AV.rens_R σ ρ ι a, AV.rens_R σ ρ ι c]
 | .pp cs, v => by simp only [AV.ren, AV.R, AV.rens_R σ ρ ι cs]
 | .sl sz n f, v => by simp only [AV.ren, AV.R, fun i => AV.rens_R σ ρ ι (f i)]
 | .junk, v => by simp only [AV.ren, AV.R]
 | .anyb, v => by simp only [AV.ren, AV.R]
theorem AV.rens_R (σ : Nat → Nat) (ρ : Rho) (ι : Imm) : ∀ (x : List AV) (v : List Value), AV.Rs ρ ι (AV.rens σ x) v ↔ AV.Rs (fun h => ρ (σ h)) ι x v
 | [], v => by simp only [AV.rens, AV.Rs]
 | x :: xs, v => by simp only [AV.rens, AV.Rs, AV.ren_R σ ρ ι x, AV.rens_R σ ρ ι xs]
end
theorem ZipR.of_map {X Y : Type} {R : Y → Value → Prop} (f : X → Y) : ∀ (l : List MapEntry) (m : List (MK × X)), ZipR R l (m.map fun p => (p.1, f p.2)) ↔ ZipR (fun x v => R (f x) v) l m
 | [], m => by simp only [ZipR, List.map_eq_nil_iff]
 | e :: es, m => by
   simp only [ZipR]
   constructor
   ·rintro ⟨p, ps, h, h1, h2, h3⟩
    cases m with
    | nil => cases h
    | cons q qs =>
      simp only [List.map_cons, List.cons.injEq] at h
      obtain ⟨rfl, rfl⟩ := h
      exact ⟨q, qs, rfl, h1, h2, (ZipR.of_map f es qs).1 h3⟩
   ·rintro ⟨q, qs, rfl, h1, h2, h3⟩
    exact ⟨_, _, rfl, h1, h2, (ZipR.of_map f es qs).2 h3⟩
theorem MapR.of_map {X Y : Type} {R : Y → Value → Prop} (f : X → Y) {kk : Option IntKind} {m : List (MK × X)} {es : Array MapEntry} {clock : Nat} : MapR R kk (m.map fun p => (p.1, f p.2)) es clock ↔ MapR (fun x v => R (f x) v) kk m es clock := by
 have e : (m.map fun p => (p.1, f p.2)).map (·.1) = m.map (·.1) := by rw [List.map_map]; rfl
 constructor
 ·intro h
  exact ⟨fun p hp => h.kind (p.1, f p.2) (List.mem_map_of_mem (f := fun p : MK × X => (p.1, f p.2)) hp), let ⟨l, a, b⟩ := h.zip; ⟨l, a, (ZipR.of_map f l m).1 b⟩, e ▸ h.keys, h.born, h.clock⟩
 ·intro h
  refine ⟨fun p hp => ?_, let ⟨l, a, b⟩ := h.zip; ⟨l, a, (ZipR.of_map f l m).2 b⟩, by rw [e]; exact h.keys, h.born, h.clock⟩
  obtain ⟨q, hq, rfl⟩ := List.mem_map.1 hp
  exact h.kind q hq
theorem Chunk.ren_R (σ : Nat → Nat) (ρ : Rho) (ι : Imm) (hv : HV) (w : World) (c : Chunk) : (c.ren σ).R ρ ι hv w ↔ c.R (fun h => ρ (σ h)) ι hv w := by
 cases c with
 | cells e cs => simp only [Chunk.ren, Chunk.R, AV.rens_R]
 | maph kk m =>
   simp only [Chunk.ren, Chunk.R, MapR.of_map]
   have : (fun (x : AV) (v : Value) => AV.R ρ ι (x.ren σ) v) = AV.R (fun h => ρ (σ h)) ι := by funext x v; exact propext (AV.ren_R σ ρ ι x v)
   rw [this]
 | icells cs => simp only [Chunk.ren, Chunk.R]
 | mapit kk m left i la => simp only [Chunk.ren, Chunk.R]
 | _ => exact Iff.rfl
def sig (l : List Nat) (n m : Nat) (k : Nat) : Nat := bif Nat.blt k n then l.getD k 0 else m + (k - n)
def mergeH (l : List Nat) (H H0 H0' : AH) : AH :=
 ⟨H.next + (H0'.next - H0.next), go (H.ch) ++ add H0'.ch⟩
where
 go : List (Nat × Chunk) → List (Nat × Chunk)
  | [] => []
  | p :: ps => bif l.any (Nat.beq p.1) then go ps else p :: go ps
 add : List (Nat × Chunk) → List (Nat × Chunk)
  | [] => []
  | p :: ps => (sig l H0.next H.next p.1, p.2.ren (sig l H0.next H.next)) :: add ps
def subRen (σ : Nat → Nat) (H : AH) : List (Nat × Chunk) → Prop
 | [] => True
 | p :: ps => H.get (σ p.1) = some (p.2.ren σ) ∧ subRen σ H ps
def useOk (l : List Nat) (H H0 : AH) : Bool :=
 Nat.beq l.length H0.next && l.all (fun k => Nat.blt k H.next) && nodupB l && (List.range H0.next).all (fun k => (H0.get k).isSome) && H0.ch.all (fun p => Nat.blt p.1 H0.next) && nodupB (H0.ch.map (·.1))
where
 nodupB : List Nat → Bool
  | [] => true
  | x :: xs => !(xs.any (Nat.beq x)) && nodupB xs
theorem nodupB_spec : ∀ {l : List Nat}, useOk.nodupB l = true → l.Nodup
 | [], _ => List.nodup_nil
 | x :: xs, h => by
   simp only [useOk.nodupB, Bool.and_eq_true, Bool.not_eq_true'] at h
   refine List.nodup_cons.2 ⟨fun hm => ?_, nodupB_spec h.2⟩
   have := h.1
   rw [List.any_eq_false] at this
   exact this x hm (by simp)
theorem subRen_spec {σ : Nat → Nat} {H : AH} : ∀ {l : List (Nat × Chunk)}, subRen σ H l → ∀ p ∈ l, H.get (σ p.1) = some (p.2.ren σ)
 | [], _, p, hp => by cases hp
 | q :: qs, h, p, hp => by
   rcases List.mem_cons.1 hp with rfl | hp
   ·exact h.1
   ·exact subRen_spec h.2 p hp
theorem merge_go {l : List Nat} : ∀ {c : List (Nat × Chunk)}, ∀ p ∈ mergeH.go l c, p ∈ c ∧ ∀ k ∈ l, p.1 ≠ k
 | [], p, hp => by cases hp
 | q :: qs, p, hp => by
   simp only [mergeH.go] at hp
   cases hb : l.any (Nat.beq q.1) with
   | true =>
     rw [hb] at hp
     obtain ⟨h1, h2⟩ := merge_go p hp
     exact ⟨List.mem_cons_of_mem _ h1, h2⟩
   | false =>
     rw [hb] at hp
     simp only [cond_false, List.mem_cons] at hp
     rcases hp with rfl | hp
     ·refine ⟨List.mem_cons_self .., fun k hk e => ?_⟩
      rw [List.any_eq_false] at hb
      exact hb k hk (by rw [e]; simp)
     ·obtain ⟨h1, h2⟩ := merge_go p hp
      exact ⟨List.mem_cons_of_mem _ h1, h2⟩
theorem merge_go_nodup {l : List Nat} : ∀ {c : List (Nat × Chunk)}, (c.map (·.1)).Nodup → ((mergeH.go l c).map (·.1)).Nodup
 | [], _ => by simp [mergeH.go]
 | q :: qs, h => by
   simp only [List.map_cons, List.nodup_cons] at h
   simp only [mergeH.go]
   cases hb : l.any (Nat.beq q.1) with
   | true => exact merge_go_nodup h.2
   | false =>
     simp only [cond_false, List.map_cons, List.nodup_cons]
     refine ⟨fun hm => ?_, merge_go_nodup h.2⟩
     obtain ⟨p, hp, e⟩ := List.mem_map.1 hm
     exact h.1 (by rw [← e]; exact List.mem_map_of_mem (merge_go p hp).1)
theorem merge_add {l : List Nat} {H H0 : AH} : ∀ {c : List (Nat × Chunk)}, ∀ p ∈ mergeH.add l H H0 c, ∃ q ∈ c, p = (sig l H0.next H.next q.1, q.2.ren (sig l H0.next H.next))
 | [], p, hp => by cases hp
 | q :: qs, p, hp => by
   simp only [mergeH.add, List.mem_cons] at hp
   rcases hp with rfl | hp
   ·exact ⟨q, List.mem_cons_self .., rfl⟩
   ·obtain ⟨q', h1, h2⟩ := merge_add p hp
    exact ⟨q', List.mem_cons_of_mem _ h1, h2⟩
theorem merge_add_keys {l : List Nat} {H H0 : AH} : ∀ {c : List (Nat × Chunk)}, (mergeH.add l H H0 c).map (·.1) = c.map fun p => sig l H0.next H.next p.1
 | [] => rfl
 | q :: qs => by simp only [mergeH.add, List.map_cons, merge_add_keys]
theorem map_nodup {σ : Nat → Nat} (hi : ∀ a b, σ a = σ b → a = b) {c : List (Nat × Chunk)} (hn : (c.map (·.1)).Nodup) : (c.map fun p => σ p.1).Nodup := by
 induction c with
 | nil => simp
 | cons q qs ih =>
   simp only [List.map_cons, List.nodup_cons] at hn ⊢
   refine ⟨fun hm => hn.1 ?_, ih hn.2⟩
   obtain ⟨p, hp, e⟩ := List.mem_map.1 hm
   rw [← hi _ _ e]
   exact List.mem_map_of_mem hp
theorem SR.frame {H0 H : AH} (l : List Nat) {ρ : Rho} {ι : Imm} {w : World} (hS : SR ρ ι H w) (hok : useOk l H H0 = true) (hsub : subRen (sig l H0.next H.next) H H0.ch) :
 SR (fun k => ρ (sig l H0.next H.next k)) ι H0 w ∧ ∀ (K0 K : AV → AH → Prop), (∀ r H0', K0 r H0' → K (r.ren (sig l H0.next H.next)) (mergeH l H H0 H0')) → ∀ v w', Lift K0 (fun k => ρ (sig l H0.next H.next k)) ι H0 w v w' → Lift K ρ ι H w v w' := by
 simp only [useOk, Bool.and_eq_true] at hok
 obtain ⟨⟨⟨⟨⟨o1, o2⟩, o3⟩, o4⟩, o5⟩, o6⟩ := hok
 have hlen := Nat.eq_of_beq_eq_true o1
 have hlt : ∀ k ∈ l, k < H.next := fun k hk => by have := List.all_eq_true.1 o2 k hk; simpa using this
 have hnd := nodupB_spec o3
 have hall : ∀ k, k < H0.next → ∃ c, H0.get k = some c := fun k hk => Option.isSome_iff_exists.1 (List.all_eq_true.1 o4 k (List.mem_range.2 hk))
 have hkeys : ∀ p ∈ H0.ch, p.1 < H0.next := fun p hp => by have := List.all_eq_true.1 o5 p hp; simpa using this
 generalize hσ : sig l H0.next H.next = σ at *
 have σlt : ∀ k, k < H0.next → ∃ hk : k < l.length, σ k = l[k] := fun k hk => by
  refine ⟨by omega, ?_⟩
  rw [← hσ]
  unfold sig
  have : Nat.blt k H0.next = true := by simpa using hk
  rw [this]
  simp [List.getD, show k < l.length by omega]
 have σge : ∀ k, H0.next ≤ k → σ k = H.next + (k - H0.next) := fun k hk => by
  rw [← hσ]
  unfold sig
  have : Nat.blt k H0.next = false := by rw [Bool.eq_false_iff]; simp; omega
  rw [this]
  rfl
 have σmem : ∀ k, k < H0.next → σ k ∈ l := fun k hk => by obtain ⟨h1, h2⟩ := σlt k hk; rw [h2]; exact List.getElem_mem h1
 have σinj : ∀ a b, σ a = σ b → a = b := fun a b e => by
  rcases Nat.lt_or_ge a H0.next with ha | ha <;> rcases Nat.lt_or_ge b H0.next with hb | hb
  ·obtain ⟨a1, a2⟩ := σlt a ha
   obtain ⟨b1, b2⟩ := σlt b hb
   rw [a2, b2] at e
   exact (List.getElem_inj hnd).1 e
  ·have := hlt _ (σmem a ha); rw [e, σge b hb] at this; omega
  ·have := hlt _ (σmem b hb); rw [← e, σge a ha] at this; omega
  ·rw [σge a ha, σge b hb] at e; omega
 have sub := subRen_spec hsub
 have mem0 : ∀ p ∈ H0.ch, (σ p.1, p.2.ren σ) ∈ H.ch := fun p hp => AH.get_mem (sub p hp)
 have hS0 : SR (fun k => ρ (σ k)) ι H0 w := by
  refine ⟨hS.imm, hS.one, fun p hp => ?_, fun k hk => ?_, ?_, fun p hp q hq hpq a b ha hb => ?_, fun p hp a ha => hS.iapart _ (mem0 p hp) a ha, fun p hp a ha => hS.lt _ (mem0 p hp) a ha⟩
  ·obtain ⟨hv, h1, h2⟩ := hS.rel _ (mem0 p hp)
   exact ⟨hv, h1, (Chunk.ren_R σ ρ ι hv w p.2).1 h2⟩
  ·rw [σge k hk]; exact hS.fresh _ (by omega)
  ·exact nodupB_spec o6
  ·exact hS.apart _ (mem0 p hp) _ (mem0 q hq) (fun e => hpq (σinj _ _ e)) a b ha hb
 refine ⟨hS0, ?_⟩
 intro K0 K hK v w' ⟨r0, H0', ρ0', ι', k, hr', hS', hW⟩
 let ρ' : Rho := fun h => if h < H.next then (if h ∈ l then ρ0' (l.idxOf h) else ρ h) else ρ0' (H0.next + (h - H.next))
 have hcomp : (fun k => ρ' (σ k)) = ρ0' := by
  funext k
  rcases Nat.lt_or_ge k H0.next with hk | hk
  ·have h1 := hlt _ (σmem k hk)
   obtain ⟨h2, h3⟩ := σlt k hk
   simp only [ρ', if_pos h1, if_pos (σmem k hk)]
   rw [h3, hnd.idxOf_getElem]
  ·have h1 : ¬ σ k < H.next := by rw [σge k hk]; omega
   simp only [ρ', if_neg h1]
   rw [σge k hk]
   congr 1
   omega
 have hle : Rho.le ρ ρ' := fun h hv hh => by
  rcases Nat.lt_or_ge h H.next with h1 | h1
  ·by_cases hm : h ∈ l
   ·simp only [ρ', if_pos h1, if_pos hm]
    obtain ⟨i, hi, rfl⟩ := List.mem_iff_getElem.1 hm
    obtain ⟨h2, h3⟩ := σlt i (by omega)
    rw [hnd.idxOf_getElem]
    exact hW.agree i hv (by rw [h3]; exact hh)
   ·simp only [ρ', if_pos h1, if_neg hm]; exact ⟨hv, hh, rfl, rfl⟩
  ·rw [hS.fresh h h1] at hh; cases hh
 have foot0 : ∀ k, H0.foot (fun k => ρ (σ k)) k → H.foot ρ k := fun k ⟨p, hp, hv, h1, h2⟩ => ⟨_, mem0 p hp, hv, h1, h2⟩
 have lkey : ∀ k ∈ l, ∃ p ∈ H0.ch, σ p.1 = k := fun k hk => by
  obtain ⟨i, hi, rfl⟩ := List.mem_iff_getElem.1 hk
  obtain ⟨c, hc⟩ := hall i (by omega)
  obtain ⟨h1, h2⟩ := σlt i (by omega)
  exact ⟨_, AH.get_mem hc, h2⟩
 have far0 : ∀ p ∈ H.ch, (∀ k ∈ l, p.1 ≠ k) → ∀ hv, ρ p.1 = some hv → ∀ k, hv.foot k → ¬ H0.foot (fun k => ρ (σ k)) k := fun p hp hne hv hh k hk ⟨q, hq, hu, h1, h2⟩ =>
  hS.apart p hp _ (mem0 q hq) (hne _ (σmem _ (hkeys q hq))) hv hu hh h1 k hk h2
 have memM : ∀ p ∈ (mergeH l H H0 H0').ch, (p ∈ H.ch ∧ ∀ k ∈ l, p.1 ≠ k) ∨ ∃ q ∈ H0'.ch, p = (σ q.1, q.2.ren σ) := fun p hp => by
  rcases List.mem_append.1 hp with hp | hp
  ·exact .inl (merge_go p hp)
  ·obtain ⟨q, h1, h2⟩ := merge_add p hp
   rw [hσ] at h2
   exact .inr ⟨q, h1, h2⟩
 have key0' : ∀ q ∈ H0'.ch, q.1 < H0'.next := fun q hq => by
  obtain ⟨hv, h1, _⟩ := hS'.rel q hq
  rcases Nat.lt_or_ge q.1 H0'.next with h2 | h2
  ·exact h2
  ·rw [hS'.fresh _ h2] at h1; cases h1
 have keyH : ∀ p ∈ H.ch, p.1 < H.next := fun p hp => by
  obtain ⟨hv, h1, _⟩ := hS.rel p hp
  rcases Nat.lt_or_ge p.1 H.next with h2 | h2
  ·exact h2
  ·rw [hS.fresh _ h2] at h1; cases h1
 have valE : ∀ p ∈ H.ch, (∀ k ∈ l, p.1 ≠ k) → ρ' p.1 = ρ p.1 := fun p hp hne => by
  simp only [ρ', if_pos (keyH p hp), if_neg (fun hm => hne _ hm rfl)]
 have valH : ∀ p ∈ H.ch, (∀ k ∈ l, p.1 ≠ k) → ∀ hv, ρ' p.1 = some hv → ρ p.1 = some hv := fun p hp hne hv hh => by
  rw [← valE p hp hne]; exact hh
 have val0 : ∀ q : Nat, ρ' (σ q) = ρ0' q := fun q => congrFun hcomp q
 have keepB : ∀ p ∈ H.ch, (∀ k ∈ l, p.1 ≠ k) → ∀ hv, ρ p.1 = some hv → ∀ k, hv.foot k → w'.heap[k]? = w.heap[k]? := fun p hp hne hv hh k hk =>
  hW.touch.block k (hS.lt p hp hv hh k hk) (far0 p hp hne hv hh k hk)
 have apart2 : ∀ p ∈ H.ch, (∀ k ∈ l, p.1 ≠ k) → ∀ q ∈ H0'.ch, ∀ a b, ρ p.1 = some a → ρ0' q.1 = some b → ∀ k, a.foot k → ¬ b.foot k := fun p hp hne q hq a b ha hb k hk hk2 => by
  rcases hW.grow k ⟨q, hq, b, hb, hk2⟩ with h1 | h1
  ·exact far0 p hp hne a ha k hk h1
  ·have := hS.lt p hp a ha k hk; omega
 refine ⟨r0.ren σ, mergeH l H H0 H0', ρ', ι', hK r0 H0' k, (AV.ren_R σ ρ' ι' r0 v).2 (by rw [hcomp]; exact hr'), ⟨hS'.imm, hS'.one, fun p hp => ?_, fun h hh => ?_, ?_, fun p hp q hq hpq a b ha hb => ?_, fun p hp a ha => ?_, fun p hp a ha => ?_⟩, ⟨⟨hW.touch.os, hW.touch.tape, hW.touch.output, hW.touch.size, fun k hk hs => hW.touch.block k hk fun hf => hs (foot0 k hf)⟩, fun k hk => ?_, hW.imm, fun b o v hv => ?_, hle⟩⟩
 ·rcases memM p hp with ⟨h1, h2⟩ | ⟨q, h1, rfl⟩
  ·obtain ⟨hv, h3, h4⟩ := hS.rel p h1
   exact ⟨hv, (valE p h1 h2).trans h3, h4.keep hle hW.imm fun k hk => keepB p h1 h2 hv h3 k hk⟩
  ·obtain ⟨hv, h3, h4⟩ := hS'.rel q h1
   exact ⟨hv, by rw [val0]; exact h3, (Chunk.ren_R σ ρ' ι' hv w' q.2).2 (by rw [hcomp]; exact h4)⟩
 ·have hh' : H.next + (H0'.next - H0.next) ≤ h := hh
  have h1 : ¬ h < H.next := by omega
  simp only [ρ', if_neg h1]
  exact hS'.fresh _ (by omega)
 ·unfold mergeH
  simp only [List.map_append]
  rw [List.nodup_append, merge_add_keys, hσ]
  refine ⟨merge_go_nodup hS.nodup, ?_, fun a ha b hb e => ?_⟩
  ·exact map_nodup σinj hS'.nodup
  ·obtain ⟨p, hp, rfl⟩ := List.mem_map.1 ha
   obtain ⟨q, hq, rfl⟩ := List.mem_map.1 hb
   obtain ⟨h1, h2⟩ := merge_go p hp
   rcases Nat.lt_or_ge q.1 H0.next with h3 | h3
   ·exact h2 _ (σmem _ h3) e
   ·have := keyH p h1; rw [e, σge _ h3] at this; omega
 ·rcases memM p hp with ⟨h1, h2⟩ | ⟨p', h1, rfl⟩ <;> rcases memM q hq with ⟨h3, h4⟩ | ⟨q', h3, rfl⟩
  ·exact hS.apart p h1 q h3 hpq a b (valH p h1 h2 a ha) (valH q h3 h4 b hb)
  ·rw [val0] at hb
   exact apart2 p h1 h2 q' h3 a b (valH p h1 h2 a ha) hb
  ·rw [val0] at ha
   exact fun k hk hk2 => apart2 q h3 h4 p' h1 b a (valH q h3 h4 b hb) ha k hk2 hk
  ·rw [val0] at ha hb
   exact hS'.apart p' h1 q' h3 (fun e => hpq (by rw [e])) a b ha hb
 ·rcases memM p hp with ⟨h1, h2⟩ | ⟨q, h1, rfl⟩
  ·have ha' := valH p h1 h2 a ha
   intro k o v hk hi
   rcases hW.immNew k o v hi with h3 | h3 | h3
   ·exact hS.iapart p h1 a ha' k o v hk h3
   ·exact far0 p h1 h2 a ha' k hk h3
   ·have := hS.lt p h1 a ha' k hk; omega
  ·rw [val0] at ha
   exact hS'.iapart q h1 a ha
 ·rcases memM p hp with ⟨h1, h2⟩ | ⟨q, h1, rfl⟩
  ·intro k hk
   exact Nat.lt_of_lt_of_le (hS.lt p h1 a (valH p h1 h2 a ha) k hk) hW.touch.size
  ·rw [val0] at ha
   exact hS'.lt q h1 a ha
 ·obtain ⟨p, hp, hv, h1, h2⟩ := hk
  rcases memM p hp with ⟨h3, h4⟩ | ⟨q, h3, rfl⟩
  ·exact .inl ⟨p, h3, hv, valH p h3 h4 hv h1, h2⟩
  ·rw [val0] at h1
   rcases hW.grow k ⟨q, h3, hv, h1, h2⟩ with h5 | h5
   ·exact .inl (foot0 k h5)
   ·exact .inr h5
 ·rcases hW.immNew b o v hv with h1 | h1 | h1
  ·exact .inl h1
  ·exact .inr (.inl (foot0 b h1))
  ·exact .inr (.inr h1)
theorem ACall.use {P : Program} {f : FuncId} {args0 : List AV} {H0 : AH} {K0 QP0 : AV → AH → Prop} (l : List Nat) (h : ACall P f args0 H0 K0 QP0) {args : List AV} {H : AH} {K QP : AV → AH → Prop}
 (hok : useOk l H H0 = true) (hargs : args = AV.rens (sig l H0.next H.next) args0) (hsub : subRen (sig l H0.next H.next) H H0.ch)
 (hK : ∀ r H0', K0 r H0' → K (r.ren (sig l H0.next H.next)) (mergeH l H H0 H0')) (hQ : ∀ r H0', QP0 r H0' → QP (r.ren (sig l H0.next H.next)) (mergeH l H H0 H0')) : ACall P f args H K QP := by
 refine ⟨h.fn, fun ρ ι w cargs hG hS hr => ?_⟩
 obtain ⟨hS0, back⟩ := hS.frame l hok hsub
 refine (h.run _ ι w cargs hG hS0 (by rw [hargs] at hr; exact (AV.rens_R _ ρ ι args0 cargs).1 hr)).mono fun e w' hp => ?_
 cases e with
 | returned v => exact back K0 K hK v w' hp
 | panicked ch => obtain ⟨v, h1, h2⟩ := hp; exact ⟨v, h1, back QP0 QP hQ v w' h2⟩
 | outgrown => exact hp
theorem YCall.use {P : Program} {y : Nat} {args0 : List AV} {H0 : AH} {K0 QP0 : AV → AH → Prop} (l : List Nat) (h : YCall P y args0 H0 K0 QP0) {args : List AV} {H : AH} {K QP : AV → AH → Prop}
 (hok : useOk l H H0 = true) (hargs : args = AV.rens (sig l H0.next H.next) args0) (hsub : subRen (sig l H0.next H.next) H H0.ch)
 (hK : ∀ r H0', K0 r H0' → K (r.ren (sig l H0.next H.next)) (mergeH l H H0 H0')) (hQ : ∀ r H0', QP0 r H0' → QP (r.ren (sig l H0.next H.next)) (mergeH l H H0 H0')) : YCall P y args H K QP := by
 refine ⟨fun ρ ι w cargs hG hS hr => ?_⟩
 obtain ⟨hS0, back⟩ := hS.frame l hok hsub
 obtain ⟨fn, tmps, asg, body, h1, h2⟩ := h.run _ ι w cargs hG hS0 (by rw [hargs] at hr; exact (AV.rens_R _ ρ ι args0 cargs).1 hr)
 refine ⟨fn, tmps, asg, body, h1, h2.mono fun e w' hp => ?_⟩
 cases e with
 | returned v => exact back K0 K hK v w' hp
 | panicked ch => obtain ⟨v, h1, h2⟩ := hp; exact ⟨v, h1, back QP0 QP hQ v w' h2⟩
 | outgrown => exact hp
theorem YCall.useN {P : Program} {y : Nat} {args0 : List AV} {B0 B1 : SemP} (k : Nat) (h : YCall P y args0 ⟨1, [(0, .sem B0)]⟩ (fun r H' => r = AV.bool true ∧ H' = ⟨1, [(0, .sem B1)]⟩) (fun _ _ => False)) {args : List AV} {H : AH} {K QP : AV → AH → Prop}
 (hok : useOk [k] H ⟨1, [(0, .sem B0)]⟩ = true) (hargs : args = AV.rens (sig [k] 1 H.next) args0) (hsub : subRen (sig [k] 1 H.next) H [(0, .sem B0)])
 (hK : K (AV.bool true) (mergeH [k] H ⟨1, [(0, .sem B0)]⟩ ⟨1, [(0, .sem B1)]⟩)) : YCall P y args H K QP :=
 YCall.use [k] h hok hargs hsub (fun r H0' ⟨e1, e2⟩ => by subst e1 e2; exact hK) fun _ _ h => h.elim
end Go.Proofs.YtgfkepebfaiepaaGreatDoor.Ax
