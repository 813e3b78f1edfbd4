/-
  Chapter 11: file systems' values, names of segments.
-/
import Derived.Test.YtgfkepebfaiepaaGreatDoorQk
import Derived.Test.YtgfkepebfaiepaaGreatDoorQr
import Derived.Test.YtgfkepebfaiepaaGreatDoorQs
import Derived.Test.YtgfkepebfaiepaaGreatDoorQz
namespace Go.Proofs.YtgfkepebfaiepaaGreatDoor.Ax
open Go.RowKit
set_option maxRecDepth 100000
theorem file_of {v : VM} {x : List UInt8} {m : Nat} {f : FI} (h1 : afind v.fd.now x = some m) (h2 : ffind v.fs m = some f) : v.file x = f := by
 unfold VM.file
 rw [h1]
 simp [h2]
theorem stepE_on {v : VM} (ho : v.off = false) (hf : v.fuse ≠ 0) (e : VM → Int) : v.stepE e = e v.tick := by
 unfold VM.stepE
 rw [if_neg (by rw [ho]; decide), if_neg hf]
theorem stepV_on {v : VM} (ho : v.off = false) (hf : v.fuse ≠ 0) (d : VM → VM) : v.stepV d = (d v.tick).clean := by
 unfold VM.stepV
 rw [if_neg (by rw [ho]; decide), if_neg hf]
structure VM.Up (Q : Nat) (v : VM) : Prop where
 off : v.off = false
 fuse : v.fuse = -1
 quota : v.quota = (Q : Int)
theorem VM.Up.tick {Q : Nat} {v : VM} (h : v.Up Q) : v.tick.Up Q := ⟨h.off, by show max (v.fuse - 1) (-1) = -1; rw [h.fuse]; decide, h.quota⟩
theorem VM.Up.clean {Q : Nat} {v : VM} (h : v.Up Q) : v.clean.Up Q := ⟨h.off, h.fuse, h.quota⟩
theorem VM.Up.ne {Q : Nat} {v : VM} (h : v.Up Q) : v.fuse ≠ 0 := by rw [h.fuse]; decide
theorem VM.Up.step {Q : Nat} {v : VM} (h : v.Up Q) {d : VM → VM} (hd : (d v.tick).Up Q) : (v.stepV d).Up Q := by
 rw [stepV_on h.off h.ne]
 exact hd.clean
theorem VM.Up.withV {Q : Nat} {v : VM} (h : v.Up Q) (x : List UInt8) (d : VM → FI → FI) : (Ax.withV x d v).Up Q := by
 unfold Ax.withV
 split
 ·exact ⟨h.off, h.fuse, h.quota⟩
 ·exact h
theorem VM.Up.create1 {Q : Nat} {v : VM} (h : v.Up Q) (x : List UInt8) : (v.create1 x).Up Q := by
 unfold VM.create1
 split
 ·exact ⟨h.off, h.fuse, h.quota⟩
 ·exact h
theorem VM.Ok.liveNow {n B k : Nat} {v : VM} (h : v.Ok n B k) : ∀ p ∈ v.fd.now, p.2 ∈ v.fd.live := fun p hp =>
 live_mem.2 ⟨v.fd.ds.length, Nat.le_refl _, by rw [List.take_length, ← h.fd.eq]; exact List.mem_map_of_mem hp⟩
def atN (x : List UInt8) (i : Nat) (m : NM) : Prop := afind m x = some i
theorem live_at {v : VM} {x : List UInt8} {i : Nat} (hP : v.fd.In (atN x i)) : i ∈ v.fd.live := by
 have h1 := hP.now
 unfold atN at h1
 exact live_mem.2 ⟨v.fd.ds.length, Nat.le_refl _, by rw [List.take_length, ← hP.eq]; exact List.mem_map_of_mem (f := fun p : List UInt8 × Nat => p.2) (afind_mem h1)⟩
def VM.Has (v : VM) (x : List UInt8) (f : FI) : Prop := mayB x = true ∧ ∃ i, v.fd.In (atN x i) ∧ ffind v.fs i = some f
theorem VM.Has.file {v : VM} {x : List UInt8} {f : FI} (h : v.Has x f) : v.file x = f := by
 obtain ⟨_, i, h1, h2⟩ := h
 exact file_of h1.now h2
theorem VM.Has.find {v : VM} {x : List UInt8} {f : FI} (h : v.Has x f) : v.findE x = 0 := by
 obtain ⟨h0, i, h1, _⟩ := h
 exact findE_yes h0 h1.now
theorem VM.Has.opens {v : VM} {x : List UInt8} {f : FI} (h : v.Has x f) (ho : v.off = false) : v.openE x = 0 := by
 unfold VM.openE
 rw [if_neg (by rw [ho]; decide)]
 exact h.find
theorem VM.Has.size {v : VM} {x : List UInt8} {f : FI} (h : v.Has x f) (ho : v.off = false) : v.size x = (f.now.length : Int) := by
 unfold VM.size
 rw [if_pos (h.opens ho), h.file]
theorem VM.Has.readE {v : VM} {x : List UInt8} {f : FI} (h : v.Has x f) (ho : v.off = false) (a m : Int) : v.readE x a m = f.readE a m := by
 unfold VM.readE
 rw [if_pos (h.opens ho), h.file]
theorem VM.Has.read {v : VM} {x : List UInt8} {f : FI} (h : v.Has x f) (ho : v.off = false) (a m : Int) : v.read x a m = f.read a m := by
 unfold VM.read
 rw [if_pos (h.opens ho), h.file]
theorem VM.Has.withF {n B k Q : Nat} {v : VM} (ok : v.Ok n B k) (up : v.Up Q) {x : List UInt8} {f : FI} (h : v.Has x f) (e : VM → FI → Int) (d : VM → FI → FI) :
 v.stepE (withE x e) = e v.tick f ∧ (v.stepV (withV x d)).Has x (d v.tick f) ∧ (v.stepV (withV x d)).Up Q ∧ (v.stepV (withV x d)).fd = v.fd ∧ ∀ y g, y ≠ x → v.Has y g → (v.stepV (withV x d)).Has y g := by
 have hT : v.tick.Has x f := h
 have h0 : v.tick.findE x = 0 := hT.find
 have ef : v.tick.file x = f := hT.file
 obtain ⟨hm, i, hi, hf⟩ := h
 have en : v.tick.fd.findN x = i := by
  show (afind v.fd.now x).getD 0 = i
  rw [show afind v.fd.now x = some i from hi.now]
  rfl
 have ew : withV x d v.tick = { v.tick with fs := fset v.fs i (d v.tick f) } := by
  unfold withV
  rw [if_pos h0, en, ef]
  rfl
 have key : ∀ j, j ∈ v.fd.live → ffind (v.stepV (withV x d)).fs j = if j = i then some (d v.tick f) else ffind v.fs j := fun j hj => by
  rw [stepV_on up.off up.ne, ew]
  show ffind ((fset v.fs i (d v.tick f)).filter fun p => decide (p.1 ∈ v.fd.live)) j = _
  rw [ffind_filter (fun y => decide (y ∈ v.fd.live)), if_pos (decide_eq_true hj), ffind_fset]
  by_cases e : j = i
  ·rw [if_pos ⟨e, by rw [hf]; rfl⟩, if_pos e]
  ·rw [if_neg fun h => e h.1, if_neg e]
 have hfd : (v.stepV (withV x d)).fd = v.fd := by
  rw [stepV_on up.off up.ne, ew]
  rfl
 refine ⟨?_, ⟨hm, i, by rw [hfd]; exact hi, by rw [key i (live_at hi), if_pos rfl]⟩, up.step (up.tick.withV _ _), hfd, fun y g hy hg => ?_⟩
 ·rw [stepE_on up.off up.ne]
  unfold withE
  rw [if_pos h0, ef]
 ·obtain ⟨g0, j, g1, g2⟩ := hg
  refine ⟨g0, j, by rw [hfd]; exact g1, ?_⟩
  rw [key j (live_at g1), if_neg]
  ·exact g2
  ·intro e
   subst e
   have e1 := g1.now
   have e2 := hi.now
   unfold atN at e1 e2
   have := ok.fd.now.1.inj _ (afind_mem e1) _ (afind_mem e2) rfl
   exact hy (by injection this)
theorem used_le {n B k : Nat} {v : VM} (ok : v.Ok n B k) : v.used ≤ n * B := by
 have hu := usedTo_le (v := v) (B := B) (fun p hp => (ok.files p hp).len) (lsN v.fd.now).length
 rw [used_all v, lsN_length v.fd.now] at hu
 exact Nat.le_trans hu (Nat.mul_le_mul_right _ ok.fd.now.1.len)
theorem appE_room {n B k Q : Nat} {v : VM} (ok : v.Ok n B k) (up : v.Up Q) {c : List UInt8} (hr : n * B + c.length ≤ Q) (f : FI) : VM.appE c v.tick f = 0 := by
 have h1 := used_le ok.tick
 have h2 : v.tick.quota = (Q : Int) := up.quota
 unfold VM.appE
 rw [h2, if_neg (by omega)]
theorem VM.Has.append {n B k Q : Nat} {v : VM} (ok : v.Ok n B k) (up : v.Up Q) {x : List UInt8} {f : FI} (h : v.Has x f) {c : List UInt8} (hr : n * B + c.length ≤ Q) :
 v.appendE x c = 0 ∧ (v.append x c).Has x (f.app c) ∧ (v.append x c).Up Q ∧ (v.append x c).fd = v.fd ∧ ∀ y g, y ≠ x → v.Has y g → (v.append x c).Has y g := by
 obtain ⟨h1, h2, h3, h4, h5⟩ := h.withF ok up (VM.appE c) (VM.appD c)
 have h0 := appE_room ok up hr f
 have e : VM.appD c v.tick f = f.app c := if_pos h0
 rw [e] at h2
 exact ⟨h1.trans h0, h2, h3, h4, h5⟩
theorem VM.Has.sync {n B k Q : Nat} {v : VM} (ok : v.Ok n B k) (up : v.Up Q) {x : List UInt8} {f : FI} (h : v.Has x f) :
 v.syncE x = 0 ∧ (v.sync x).Has x ⟨f.now, f.now, []⟩ ∧ (v.sync x).Up Q ∧ (v.sync x).fd = v.fd ∧ ∀ y g, y ≠ x → v.Has y g → (v.sync x).Has y g := h.withF ok up (fun _ _ => 0) (fun _ f => ⟨f.now, f.now, []⟩)
theorem made_fileG {n B k Q : Nat} {v : VM} (h : v.Ok n B k) (up : v.Up Q) {x : List UInt8} (hm : mayB x = true) (hno : afind v.fd.now x = none) (h256 : v.fd.now.length < 256) {b : List UInt8} (ha : VM.appE b (v.create x).tick ⟨[], [], []⟩ = 0) :
 v.createE x = 0 ∧ (v.create x).appendE x b = 0 ∧ ((v.create x).append x b).syncE x = 0 ∧ (((v.create x).append x b).sync x).syncDirE = 0 ∧
  ((((v.create x).append x b).sync x).syncDir).Has x ⟨b, b, []⟩ ∧ ((((v.create x).append x b).sync x).syncDir).Up Q ∧ ((((v.create x).append x b).sync x).syncDir).fd.now = aput v.fd.now x (v.fd.last + 1) ∧
  ∀ y g, v.Has y g → ((((v.create x).append x b).sync x).syncDir).Has y g := by
 have cf : v.fd.createE x = 0 := by
  unfold FD.createE
  rw [hm, hno, decide_eq_false (show ¬ 256 ≤ v.fd.now.length by omega)]
  rfl
 have c0 : v.createE x = 0 := by
  unfold VM.createE
  rw [stepE_on up.off up.ne]
  exact cf
 have ok1 := h.create x
 have up1 : (v.create x).Up Q := up.step (up.tick.create1 _)
 have e1 : v.create x = (v.tick.create1 x).clean := stepV_on up.off up.ne _
 have e2 : v.tick.create1 x = { v.tick with fd := v.tick.fd.create x, fs := v.tick.fs ++ [(v.tick.fd.last + 1, ⟨[], [], []⟩)] } := if_pos cf
 have fd1 : (v.create x).fd = FD.did ⟨v.fd.safe, v.fd.now, v.fd.ds, v.fd.last + 1⟩ (.mk x (v.fd.last + 1)) := by
  rw [e1, e2]
  exact if_pos cf
 have now1 : (v.create x).fd.now = aput v.fd.now x (v.fd.last + 1) := by rw [fd1]; rfl
 have at1 : afind (v.create x).fd.now x = some (v.fd.last + 1) := by rw [now1, afind_aput, if_pos rfl]
 have live1 : v.fd.last + 1 ∈ (v.create x).fd.live := ok1.liveNow (x, v.fd.last + 1) (afind_mem at1)
 have none1 : ffind v.fs (v.fd.last + 1) = none := by
  cases hf : ffind v.fs (v.fd.last + 1) with
  | none => rfl
  | some f =>
    have : v.fd.last + 1 ≤ v.fd.last := h.le _ (ffind_mem hf)
    omega
 have fs1 : ∀ j, j ∈ (v.create x).fd.live → ffind (v.create x).fs j = ffind (v.fs ++ [(v.fd.last + 1, (⟨[], [], []⟩ : FI))]) j := fun j hl => by
  rw [e1, e2] at hl ⊢
  show ffind ((v.fs ++ [(v.fd.last + 1, (⟨[], [], []⟩ : FI))]).filter fun p => decide (p.1 ∈ (v.fd.create x).live)) j = _
  rw [ffind_filter (fun y => decide (y ∈ (v.fd.create x).live)), if_pos (decide_eq_true (show j ∈ (v.fd.create x).live from hl))]
 have f1 : ffind (v.create x).fs (v.fd.last + 1) = some ⟨[], [], []⟩ := by
  rw [fs1 _ live1, ffind_append, none1]
  simp
 have others : ∀ y g, v.Has y g → y ≠ x ∧ (v.create x).Has y g := fun y g hg => by
  obtain ⟨g0, j, g1, g2⟩ := hg
  have hy : y ≠ x := fun e => by
   have := g1.now
   unfold atN at this
   rw [e, hno] at this
   cases this
  have hI : (v.create x).fd.In (atN y j) := by
   rw [fd1]
   refine g1.did (fun _ h => h) (D := .mk x (v.fd.last + 1)) (fun m hm => ?_) _
   show afind (aput m x _) y = some j
   rw [afind_aput, if_neg hy]
   exact hm
  refine ⟨hy, g0, j, hI, ?_⟩
  rw [fs1 j (live_at hI), ffind_append, g2]
  rfl
 generalize v.create x = v1 at *
 have wf : ∀ {u : VM} {N B' K : Nat} (_ : u.Ok N B' K) (_ : u.Up Q) {f : FI} (_ : u.fd = v1.fd) (_ : ffind u.fs (v.fd.last + 1) = some f) (e : VM → FI → Int) (d : VM → FI → FI),
  u.stepE (withE x e) = e u.tick f ∧ (u.stepV (withV x d)).fd = v1.fd ∧ ffind (u.stepV (withV x d)).fs (v.fd.last + 1) = some (d u.tick f) ∧ (u.stepV (withV x d)).Up Q ∧ ∀ y g, y ≠ x → u.Has y g → (u.stepV (withV x d)).Has y g := by
  intro u N B' K uok uup f hfd hf e d
  have hx : afind u.tick.fd.now x = some (v.fd.last + 1) := by
   show afind u.fd.now x = _
   rw [hfd]
   exact at1
  have h0 : u.tick.findE x = 0 := findE_yes hm hx
  have ef : u.tick.file x = f := file_of hx hf
  have en : u.tick.fd.findN x = v.fd.last + 1 := by
   show (afind u.tick.fd.now x).getD 0 = _
   rw [hx]
   rfl
  have ew : withV x d u.tick = { u.tick with fs := fset u.fs (v.fd.last + 1) (d u.tick f) } := by
   unfold withV
   rw [if_pos h0, en, ef]
   rfl
  have key : ∀ j, j ∈ u.fd.live → ffind (u.stepV (withV x d)).fs j = if j = v.fd.last + 1 then some (d u.tick f) else ffind u.fs j := fun j hj => by
   rw [stepV_on uup.off uup.ne, ew]
   show ffind ((fset u.fs (v.fd.last + 1) (d u.tick f)).filter fun p => decide (p.1 ∈ u.fd.live)) j = _
   rw [ffind_filter (fun y => decide (y ∈ u.fd.live)), if_pos (decide_eq_true hj), ffind_fset]
   by_cases e : j = v.fd.last + 1
   ·rw [if_pos ⟨e, by rw [hf]; rfl⟩, if_pos e]
   ·rw [if_neg fun h => e h.1, if_neg e]
  have hfd2 : (u.stepV (withV x d)).fd = u.fd := by
   rw [stepV_on uup.off uup.ne, ew]
   rfl
  refine ⟨?_, hfd2.trans hfd, by rw [key _ (by rw [hfd]; exact live1), if_pos rfl], uup.step (uup.tick.withV _ _), fun y g hy hg => ?_⟩
  ·rw [stepE_on uup.off uup.ne]
   unfold withE
   rw [if_pos h0, ef]
  ·obtain ⟨g0, j, g1, g2⟩ := hg
   refine ⟨g0, j, by rw [hfd2]; exact g1, ?_⟩
   rw [key j (live_at g1), if_neg]
   ·exact g2
   ·intro e
    subst e
    have e1 := g1.now
    unfold atN at e1
    have := uok.fd.now.1.inj _ (afind_mem e1) _ (afind_mem (show afind u.fd.now x = some (v.fd.last + 1) from hx)) rfl
    exact hy (by injection this)
 obtain ⟨a1, a2, a3, a4, a5⟩ := wf ok1 up1 rfl f1 (VM.appE b) (VM.appD b)
 have app0 : VM.appE b v1.tick ⟨[], [], []⟩ = 0 := ha
 have fapp : VM.appD b v1.tick ⟨[], [], []⟩ = FI.app ⟨[], [], []⟩ b := if_pos app0
 have napp : (FI.app ⟨[], [], []⟩ b).now = b := by
  unfold FI.app
  split
  ·rename_i e
   exact e.symm
  ·show [] ++ b.take b.length = b
   rw [List.take_length, List.nil_append]
 have ok2 := ok1.append x b
 have hA : v1.appendE x b = 0 := by
  rw [← app0]
  exact a1
 have fd2 : (v1.append x b).fd = v1.fd := a2
 have f2 : ffind (v1.append x b).fs (v.fd.last + 1) = some (FI.app ⟨[], [], []⟩ b) := by rw [← fapp]; exact a3
 have up2 : (v1.append x b).Up Q := a4
 have o2 : ∀ y g, y ≠ x → v1.Has y g → (v1.append x b).Has y g := a5
 generalize v1.append x b = v2 at *
 obtain ⟨b1, b2, b3, b4, b5⟩ := wf ok2 up2 fd2 f2 (fun _ _ => 0) (fun _ f => ⟨f.now, f.now, []⟩)
 have ok3 := ok2.sync x
 have fd3 : (v2.sync x).fd = v1.fd := b2
 have f3 : ffind (v2.sync x).fs (v.fd.last + 1) = some ⟨b, b, []⟩ := by
  have : ffind (v2.sync x).fs (v.fd.last + 1) = some ⟨(FI.app ⟨[], [], []⟩ b).now, (FI.app ⟨[], [], []⟩ b).now, []⟩ := b3
  rw [napp] at this
  exact this
 have up3 : (v2.sync x).Up Q := b4
 have hS : v2.syncE x = 0 := b1
 have o3 : ∀ y g, y ≠ x → v2.Has y g → (v2.sync x).Has y g := b5
 generalize v2.sync x = v3 at *
 have e4 : v3.syncDir = (v3.tick.syncDir1).clean := stepV_on up3.off up3.ne _
 have fd4 : v3.syncDir.fd = v3.fd.synced := by rw [e4]; rfl
 have fs4 : ∀ j, j ∈ v3.syncDir.fd.live → ffind v3.syncDir.fs j = ffind v3.fs j := fun j hl => by
  rw [e4] at hl ⊢
  show ffind (v3.fs.filter fun p => decide (p.1 ∈ v3.fd.synced.live)) j = _
  rw [ffind_filter (fun y => decide (y ∈ v3.fd.synced.live)), if_pos (decide_eq_true (show j ∈ v3.fd.synced.live from hl))]
 have in4 : v3.syncDir.fd.In (atN x (v.fd.last + 1)) := by
  rw [fd4]
  refine ⟨rfl, fun j _ => ?_⟩
  show afind (onAll v3.fd.now (List.take j [])) x = _
  rw [List.take_nil]
  show afind v3.fd.now x = _
  rw [fd3]
  exact at1
 refine ⟨c0, hA, hS, stepE_on up3.off up3.ne _, ⟨hm, v.fd.last + 1, in4, by rw [fs4 _ (live_at in4)]; exact f3⟩, up3.step (d := VM.syncDir1) ⟨up3.tick.off, up3.tick.fuse, up3.tick.quota⟩, ?_, fun y g hg => ?_⟩
 ·rw [fd4]
  show v3.fd.now = _
  rw [fd3]
  exact now1
 ·obtain ⟨hy, h1⟩ := others y g hg
  obtain ⟨g0, j, g1, g2⟩ := o3 y g hy (o2 y g hy h1)
  have hI : v3.syncDir.fd.In (atN y j) := by rw [fd4]; exact g1.synced
  exact ⟨g0, j, hI, by rw [fs4 j (live_at hI)]; exact g2⟩
theorem made_file {n B k Q : Nat} {v : VM} (h : v.Ok n B k) (up : v.Up Q) {x : List UInt8} (hm : mayB x = true) (hno : afind v.fd.now x = none) (h256 : v.fd.now.length < 256) {b : List UInt8} (hr : (n + 1) * B + b.length ≤ Q) :
 v.createE x = 0 ∧ (v.create x).appendE x b = 0 ∧ ((v.create x).append x b).syncE x = 0 ∧ (((v.create x).append x b).sync x).syncDirE = 0 ∧
  ((((v.create x).append x b).sync x).syncDir).Has x ⟨b, b, []⟩ ∧ ((((v.create x).append x b).sync x).syncDir).Up Q ∧ ((((v.create x).append x b).sync x).syncDir).fd.now = aput v.fd.now x (v.fd.last + 1) ∧
  ∀ y g, v.Has y g → ((((v.create x).append x b).sync x).syncDir).Has y g := made_fileG h up hm hno h256 (appE_room (h.create x) (up.step (up.tick.create1 _)) hr _)
theorem csN_find : ∀ (l : List Nat) (P : List Int) (fs : List (Nat × FI)) (x : Nat), l.Nodup → ∃ K : Nat, ffind (csN P fs l).2 x = (ffind fs x).map fun f => if x ∈ l then f.crash K else f
 | [], P, fs, x, _ => ⟨0, by simp [csN]⟩
 | y :: l, P, fs, x, hn => by
   rw [List.nodup_cons] at hn
   obtain ⟨K, hK⟩ := csN_find l P.tail (fset fs y (((ffind fs y).getD ⟨[], [], []⟩).crash (pickN P (fl ((ffind fs y).getD ⟨[], [], []⟩).ds)))) x hn.2
   have e : csN P fs (y :: l) = csN P.tail (fset fs y (((ffind fs y).getD ⟨[], [], []⟩).crash (pickN P (fl ((ffind fs y).getD ⟨[], [], []⟩).ds)))) l := rfl
   rw [e]
   by_cases hx : x = y
   ·subst hx
    rw [hK, ffind_fset]
    cases hf : ffind fs x with
    | none => exact ⟨0, by simp⟩
    | some f => exact ⟨pickN P (fl f.ds), by simp [hn.1]⟩
   ·refine ⟨K, ?_⟩
    rw [hK, ffind_fset, if_neg fun h => hx h.1]
    congr 1
    funext f
    simp [hx]
theorem crash_find {v : VM} (P : List Int) {x : Nat} (hx : x ∈ (v.crash P).fd.live) : ∃ K : Nat, ffind (v.crash P).fs x = (ffind v.fs x).map fun f => f.crash K := by
 have hx : x ∈ (v.crash1 P).fd.live := hx
 obtain ⟨K, hK⟩ := csN_find (v.crash1 P).fd.live P.tail (v.crash1 P).fs x ((live_lt _).imp fun h => Nat.ne_of_lt h)
 refine ⟨K, ?_⟩
 have e : (v.crash P).fs = (csN P.tail (v.crash1 P).fs (v.crash1 P).fd.live).2 := rfl
 rw [e, hK]
 have e2 : ffind (v.crash1 P).fs x = ffind v.fs x := by
  show ffind (v.fs.filter fun p => decide (p.1 ∈ (v.crash1 P).fd.live)) x = _
  rw [ffind_filter (fun y => decide (y ∈ (v.crash1 P).fd.live)), if_pos (decide_eq_true hx)]
 rw [e2]
 congr 1
 funext f
 rw [if_pos hx]
theorem VM.Has.crash {v : VM} {x : List UInt8} {f : FI} (h : v.Has x f) (P : List Int) : ∃ K, (v.crash P).Has x (f.crash K) := by
 obtain ⟨h0, i, h1, h2⟩ := h
 have hC : (v.crash P).fd.In (atN x i) := h1.crash _
 obtain ⟨K, hK⟩ := crash_find P (live_at hC)
 rw [h2] at hK
 exact ⟨K, h0, i, hC, hK⟩
theorem VM.Up.crash {Q : Nat} {v : VM} (h : v.Up Q) (P : List Int) : (v.crash P).Up Q := ⟨rfl, rfl, h.quota⟩
structure FI.Adds (b : List UInt8) (f : FI) : Prop where
 safe : f.safe = b
 adds : ∀ d ∈ f.ds, ∃ a, d = .add a
theorem FI.Adds.app {b c : List UInt8} {f : FI} (h : f.Adds b) : (f.app c).Adds b ∧ (f.app c).now = f.now ++ c := by
 unfold FI.app
 split
 ·rename_i e
  exact ⟨h, by rw [e, List.append_nil]⟩
 ·refine ⟨⟨h.safe, fun d hd => ?_⟩, ?_⟩
  ·rcases List.mem_append.1 hd with hd | hd
   ·exact h.adds d hd
   ·exact ⟨c, List.mem_singleton.1 hd⟩
  ·show f.now ++ c.take c.length = _
   rw [List.take_length]
end Go.Proofs.YtgfkepebfaiepaaGreatDoor.Ax

namespace Go.Proofs.YtgfkepebfaiepaaGreatDoor.Ax
open Go.RowKit
set_option maxRecDepth 100000
def hexD (d : Nat) : UInt8 := if d < 10 then UInt8.ofNat (48 + d) else UInt8.ofNat (87 + d)
def hex6 (n : Nat) : List UInt8 := [hexD (n / 1048576 % 16), hexD (n / 65536 % 16), hexD (n / 4096 % 16), hexD (n / 256 % 16), hexD (n / 16 % 16), hexD (n % 16)]
def segB : List UInt8 := [115, 101, 103, 45]
def IsId (n : Nat) : Prop := 1 ≤ n ∧ n ≤ 16777215
instance (n : Nat) : Decidable (IsId n) := inferInstanceAs (Decidable (_ ∧ _))
def segName (n : Nat) : List UInt8 := if IsId n then segB ++ hex6 n else []
theorem hexD_ok : ∀ d, d < 16 → okC (hexD d).toNat = true := by decide
theorem segName_may {n : Nat} (h : IsId n) : mayB (segName n) = true := by
 have k : ∀ m, okC (hexD (m % 16)).toNat = true := fun m => hexD_ok _ (Nat.mod_lt _ (by decide))
 unfold segName
 rw [if_pos h]
 unfold mayB
 rw [decide_eq_true (by simp [segB, hex6]), Bool.true_and]
 simp only [segB, hex6, List.cons_append, List.nil_append, List.all_cons, List.all_nil, k, Bool.and_true]
 decide
def segBytes (id : Nat) (l : List Rec) : List UInt8 := headB 1 id ++ encs l
def offAt (l : List Rec) (i : Nat) : Nat := 16 + (encs (l.take i)).length
theorem segBytes_len (id : Nat) (l : List Rec) : (segBytes id l).length = offAt l l.length := by
 unfold segBytes offAt
 rw [List.length_append, headB_len, List.take_length]
theorem offAt_succ {l : List Rec} {i : Nat} (h : i < l.length) : offAt l (i + 1) = offAt l i + (l.getD i default).size := by
 unfold offAt
 rw [List.take_succ_eq_append_getElem h, encs_append, List.length_append, ← enc_len]
 simp [encs, List.getD, h]
 omega
theorem offAt_snoc (l : List Rec) (r : Rec) : offAt (l ++ [r]) (l.length + 1) = offAt l l.length + r.size := by
 unfold offAt
 rw [List.take_length, show (l ++ [r]).take (l.length + 1) = l ++ [r] from List.take_of_length_le (by simp), encs_append, List.length_append, ← enc_len]
 simp [encs]
 omega
theorem offAt_mono {l : List Rec} {i j : Nat} (h : i ≤ j) : offAt l i ≤ offAt l j := by
 unfold offAt
 have : l.take i = (l.take j).take i := by rw [List.take_take, Nat.min_eq_left h]
 have e : l.take j = l.take i ++ (l.take j).drop i := by rw [this, List.take_append_drop]
 rw [e, encs_append, List.length_append]
 omega
theorem seg_drop {id : Nat} {l : List Rec} {i : Nat} (h : i < l.length) : (segBytes id l).drop (offAt l i) = (l.getD i default).enc ++ encs (l.drop (i + 1)) := by
 have e : l = l.take i ++ (l.getD i default :: l.drop (i + 1)) := by
  rw [show l.getD i default = l[i] by simp [List.getD, h], ← List.drop_eq_getElem_cons h, List.take_append_drop]
 have e2 : segBytes id l = (headB 1 id ++ encs (l.take i)) ++ ((l.getD i default).enc ++ encs (l.drop (i + 1))) := by
  rw [segBytes, ← encs_cons, List.append_assoc, ← encs_append, ← e]
 rw [e2, List.drop_left']
 rw [List.length_append, headB_len]
 rfl
theorem seg_read {id : Nat} {l : List Rec} {i m : Nat} (h : i < l.length) (hr : (l.getD i default).May) (hm : (l.getD i default).size ≤ m) : getR (((segBytes id l).drop (offAt l i)).take m) = (l.getD i default, (l.getD i default).size, 0) := by
 rw [seg_drop h, List.take_append, List.take_of_length_le (by rw [enc_len]; exact hm)]
 exact getR_enc hr _
theorem Asc.may {s : Nat} : ∀ {l : List Rec} {s : Nat}, Asc s l → ∀ r ∈ l, r.May
 | [], _, _, _, h => by cases h
 | r :: t, _, h, x, hx => by
   rcases List.mem_cons.1 hx with rfl | hx
   ·exact h.1
   ·exact Asc.may (s := s) h.2.2 x hx
theorem May.size {r : Rec} (h : r.May) : r.size ≤ 1113 := by
 unfold Rec.May at h
 unfold Rec.size
 omega
def Rec.cut (r : Rec) : Rec := { r with key := r.key.take 70, val := r.val.take 1030 }
structure Numd (l : List Rec) : Prop where
 may : ∀ r ∈ l, r.May
 seq : ∀ i, i < l.length → (l.getD i default).seq = i + 1
theorem Numd.nil : Numd [] := ⟨fun _ h => (by cases h), fun _ h => absurd h (Nat.not_lt_zero _)⟩
theorem Numd.snoc {l : List Rec} (h : Numd l) {r : Rec} (hr : r.May) (hs : r.seq = l.length + 1) : Numd (l ++ [r]) := by
 refine ⟨fun x hx => ?_, fun i hi => ?_⟩
 ·rcases List.mem_append.1 hx with hx | hx
  ·exact h.may x hx
  ·rw [List.mem_singleton.1 hx]; exact hr
 ·by_cases e : i < l.length
  ·rw [show (l ++ [r]).getD i default = l.getD i default by simp [List.getD, List.getElem?_append_left e]]
   exact h.seq i e
  ·have : i = l.length := by simp at hi; omega
   subst this
   simp [List.getD, hs]
theorem Numd.getMay {l : List Rec} (h : Numd l) {i : Nat} (hi : i < l.length) : (l.getD i default).May := h.may _ (by simp [List.getD, hi])
theorem Numd.take {l : List Rec} (h : Numd l) (n : Nat) : Numd (l.take n) := by
 refine ⟨fun r hr => h.may r (List.mem_of_mem_take hr), fun i hi => ?_⟩
 rw [List.length_take] at hi
 rw [show (l.take n).getD i default = l.getD i default by rw [List.getD_eq_getElem?_getD, List.getD_eq_getElem?_getD, List.getElem?_take_of_lt (by omega)]]
 exact h.seq i (by omega)
theorem encs_le : ∀ {l : List Rec}, (∀ r ∈ l, r.May) → (encs l).length ≤ 1113 * l.length
 | [], _ => by simp [encs]
 | r :: t, h => by
   have h1 := encs_le (l := t) fun x hx => h x (List.mem_cons_of_mem _ hx)
   have h2 := May.size (h r (List.mem_cons_self ..))
   rw [encs_cons, List.length_append, enc_len, List.length_cons]
   omega
end Go.Proofs.YtgfkepebfaiepaaGreatDoor.Ax

namespace Go.Proofs.YtgfkepebfaiepaaGreatDoor.Ax
open Go.RowKit
set_option maxRecDepth 100000
end Go.Proofs.YtgfkepebfaiepaaGreatDoor.Ax

namespace Go.Proofs.YtgfkepebfaiepaaGreatDoor.Ax
open Go.RowKit
set_option maxRecDepth 100000
def lowV (c : UInt8) : Option Nat := if 48 ≤ c.toNat ∧ c.toNat ≤ 57 then some (c.toNat - 48) else if 97 ≤ c.toNat ∧ c.toNat ≤ 102 then some (c.toNat - 87) else none
def anyV (c : UInt8) : Option Nat := if 48 ≤ c.toNat ∧ c.toNat ≤ 57 then some (c.toNat - 48) else if 97 ≤ (c ||| 32).toNat ∧ (c ||| 32).toNat ≤ 102 then some ((c ||| 32).toNat - 87) else none
def parse (V : UInt8 → Option Nat) : List UInt8 → Nat → Option Nat
 | [], n => some n
 | c :: t, n => match V c with
   | none => none
   | some d => parse V t (16 * n + d)
def idR (x : List UInt8) : Nat × Bool := if x.length ≠ 10 ∨ x.take 4 ≠ segB then (0, false) else match parse lowV (x.drop 4) 0 with
 | none => (0, false)
 | some n => (n, decide (0 < n))
def idP (x : List UInt8) : Nat × Bool := if x.length ≠ 10 then (0, false) else match parse anyV (x.drop 4) 0 with
 | none => (0, false)
 | some n => if segName n = x then (n, true) else (0, false)
theorem all256 {p : UInt8 → Prop} (h : ∀ i : Fin 256, p (UInt8.ofFin i)) (c : UInt8) : p c := h c.toFin
theorem low_any (c : UInt8) (d : Nat) : lowV c = some d → anyV c = some d := by
 revert d
 refine all256 (p := fun c => ∀ d, lowV c = some d → anyV c = some d) ?_ c
 intro i d h
 have key : ∀ i : Fin 256, lowV (UInt8.ofFin i) = none ∨ lowV (UInt8.ofFin i) = anyV (UInt8.ofFin i) := by decide +kernel
 rcases key i with k | k
 ·rw [k] at h; cases h
 ·rw [← k]; exact h
theorem low_hex (c : UInt8) (d : Nat) : lowV c = some d → d < 16 ∧ hexD d = c := by
 intro h
 have key : ∀ i : Fin 256, lowV (UInt8.ofFin i) = none ∨ (∃ d : Fin 16, lowV (UInt8.ofFin i) = some d.val ∧ hexD d.val = UInt8.ofFin i) := by decide +kernel
 have hc : UInt8.ofFin c.toFin = c := rfl
 rcases key c.toFin with k | ⟨e, k1, k2⟩
 ·rw [hc, h] at k; cases k
 ·rw [hc] at k1 k2
  rw [h] at k1
  injection k1 with k1
  subst k1
  exact ⟨e.isLt, k2⟩
theorem hex_low : ∀ d, d < 16 → lowV (hexD d) = some d := by decide
theorem parse_mono : ∀ (l : List UInt8) (n m : Nat), parse lowV l n = some m → parse anyV l n = some m
 | [], _, _, h => h
 | c :: t, n, m, h => by
   unfold parse at h ⊢
   cases hc : lowV c with
   | none => rw [hc] at h; cases h
   | some d =>
     rw [hc] at h
     rw [low_any c d hc]
     exact parse_mono t _ _ h
theorem parse_hex6 {n : Nat} (h : n ≤ 16777215) : parse lowV (hex6 n) 0 = some n := by
 have k : ∀ m, lowV (hexD (m % 16)) = some (m % 16) := fun m => hex_low _ (Nat.mod_lt _ (by decide))
 unfold hex6
 simp only [parse, k]
 congr 1
 omega
theorem parse_back {l : List UInt8} (hl : l.length = 6) {n : Nat} (h : parse lowV l 0 = some n) : hex6 n = l ∧ n ≤ 16777215 := by
 match l, hl with
 | [a, b, c, d, e, f], _ =>
   simp only [parse] at h
   cases ha : lowV a with
   | none => rw [ha] at h; cases h
   | some a' =>
   cases hb : lowV b with
   | none => simp only [ha, hb] at h; cases h
   | some b' =>
   cases hc : lowV c with
   | none => simp only [ha, hb, hc] at h; cases h
   | some c' =>
   cases hd : lowV d with
   | none => simp only [ha, hb, hc, hd] at h; cases h
   | some d' =>
   cases he : lowV e with
   | none => simp only [ha, hb, hc, hd, he] at h; cases h
   | some e' =>
   cases hf : lowV f with
   | none => simp only [ha, hb, hc, hd, he, hf] at h; cases h
   | some f' =>
     simp only [ha, hb, hc, hd, he, hf] at h
     injection h with h
     obtain ⟨a1, a2⟩ := low_hex _ _ ha
     obtain ⟨b1, b2⟩ := low_hex _ _ hb
     obtain ⟨c1, c2⟩ := low_hex _ _ hc
     obtain ⟨d1, d2⟩ := low_hex _ _ hd
     obtain ⟨e1, e2⟩ := low_hex _ _ he
     obtain ⟨f1, f2⟩ := low_hex _ _ hf
     refine ⟨?_, by omega⟩
     unfold hex6
     rw [show n / 1048576 % 16 = a' by omega, show n / 65536 % 16 = b' by omega, show n / 4096 % 16 = c' by omega, show n / 256 % 16 = d' by omega, show n / 16 % 16 = e' by omega, show n % 16 = f' by omega, a2, b2, c2, d2, e2, f2]
theorem idP_eq (x : List UInt8) : idP x = idR x := by
 unfold idP idR
 by_cases hl : x.length ≠ 10
 ·rw [if_pos hl, if_pos (.inl hl)]
 rw [if_neg hl]
 have hl : x.length = 10 := Classical.not_not.1 hl
 have hd : (x.drop 4).length = 6 := by rw [List.length_drop, hl]
 by_cases hp : x.take 4 = segB
 ·rw [if_neg (by rintro (h | h); exact h hl; exact h hp)]
  cases h1 : parse lowV (x.drop 4) 0 with
  | some n =>
    obtain ⟨h2, h3⟩ := parse_back hd h1
    rw [parse_mono _ _ _ h1]
    simp only
    by_cases h0 : 0 < n
    ·have e : segName n = x := by
      unfold segName
      rw [if_pos ⟨h0, h3⟩, h2, ← hp, List.take_append_drop]
     rw [if_pos e, decide_eq_true h0]
    ·have e : segName n ≠ x := by
      unfold segName
      rw [if_neg (fun h => h0 h.1)]
      intro e
      rw [← e] at hl
      cases hl
     rw [if_neg e, decide_eq_false h0]
     congr 1
     omega
  | none =>
    cases h2 : parse anyV (x.drop 4) 0 with
    | none => rfl
    | some n =>
      simp only
      rw [if_neg]
      intro e
      unfold segName at e
      split at e
      ·rename_i hi
       have : x.drop 4 = hex6 n := by rw [← e]; rfl
       rw [this, parse_hex6 hi.2] at h1
       cases h1
      ·rw [← e] at hl
       cases hl
 ·rw [if_pos (.inr hp)]
  cases h2 : parse anyV (x.drop 4) 0 with
  | none => rfl
  | some n =>
    simp only
    rw [if_neg]
    intro e
    unfold segName at e
    split at e
    ·exact hp (by rw [← e]; rfl)
    ·rw [← e] at hl
     cases hl
end Go.Proofs.YtgfkepebfaiepaaGreatDoor.Ax

namespace Go.Proofs.YtgfkepebfaiepaaGreatDoor.Ax
open Go.RowKit
set_option maxRecDepth 100000
theorem segIs_ok (n : Nat) : AFn Go.Proofs.Tryz.prog 65 [AV.int .u32 n] ⟨0, []⟩ (fun _ : Unit => AV.bool (decide (IsId n))) (fun _ => ⟨0, []⟩) := by
 refine ACall.fin ?_
 refine ACall.walk (C := cfg 9 0) (cfgOk _ _) [] (fn := Go.Proofs.Tryz.f65) (by kernel_rfl) (by kernel_rfl) rfl (by kernel_rfl) (by kernel_rfl) rfl rfl ?_
 refine goA ?_
 repeat' (refine ifdA (fun q => ?_) (fun q => ?_) <;> (try dsimp only at q) <;> (refine goA ?_))
 all_goals
  refine ⟨_, _, Ent.mk' (e' := [(0, AV.bool (decide (IsId n)))]) (H' := ⟨0, []⟩) [] (by kernel_rfl) ⟨AVE.bool ?_, trivial⟩ trivial, (), rfl, rfl⟩
  first | (rw [decide_eq_decide]; unfold IsId; omega) | (rw [eq_comm, decide_eq_false_iff_not]; unfold IsId; omega)
noncomputable def cfgWr (N b : Nat) : Cfg := { P := Go.Proofs.Tryz.prog, T := tt, wr := true, N := N, pure := [], base := b }
theorem cfgWrOk (N b : Nat) : (cfgWr N b).Ok := ⟨ttOk, ttBytes, by kernel_rfl⟩
theorem tz_ok : AFn Go.Proofs.Tryz.prog 295 [AV.int .u64 16] ⟨0, []⟩ (fun _ : Unit => AV.int .i64 4) (fun _ => ⟨0, []⟩) := by
 refine ACall.fin ?_
 refine ACall.walk (C := cfgWr 14 0) (cfgWrOk _ _) [] (fn := Go.Proofs.Tryz.f295) (by kernel_rfl) (by kernel_rfl) rfl (by kernel_rfl) (by kernel_rfl) rfl rfl ?_
 refine goA ?_
 refine ⟨_, _, Ent.mk' (e' := [(0, AV.int .i64 4)]) (H' := ⟨0, []⟩) [] (by kernel_rfl) ?_ ?_, (), rfl, rfl⟩
 ·exact ⟨AVE.refl _, trivial⟩
 ·trivial
theorem tz2_ok : AFn Go.Proofs.Tryz.prog 254 [AV.int .u64 16] ⟨0, []⟩ (fun _ : Unit => AV.int .i64 4) (fun _ => ⟨0, []⟩) := by
 refine ACall.fin ?_
 refine ACall.walk (C := cfgWr 8 0) (cfgWrOk _ _) [] (fn := Go.Proofs.Tryz.f254) (by kernel_rfl) (by kernel_rfl) rfl (by kernel_rfl) (by kernel_rfl) rfl rfl ?_
 refine goA ?_
 refine AFn.useA [] (tz_ok) fun _ => ?_
 refine goA ?_
 refine ⟨_, _, Ent.mk' (e' := [(0, AV.int .i64 4)]) (H' := ⟨0, []⟩) [] (by kernel_rfl) ?_ ?_, (), rfl, rfl⟩
 ·exact ⟨AVE.refl _, trivial⟩
 ·trivial
theorem isPow2_ok : AFn Go.Proofs.Tryz.prog 253 [AV.int .i64 16] ⟨0, []⟩ (fun _ : Unit => AV.bool true) (fun _ => ⟨0, []⟩) := by
 refine ACall.fin ?_
 refine ACall.walk (C := cfgWr 8 0) (cfgWrOk _ _) [] (fn := Go.Proofs.Tryz.f253) (by kernel_rfl) (by kernel_rfl) rfl (by kernel_rfl) (by kernel_rfl) rfl rfl ?_
 refine goA ?_
 refine ⟨_, _, Ent.mk' (e' := [(0, AV.bool true)]) (H' := ⟨0, []⟩) [] (by kernel_rfl) ?_ ?_, (), rfl, rfl⟩
 ·exact ⟨AVE.refl _, trivial⟩
 ·trivial
def aI (n k : Nat) : List IV := List.replicate (65 - k) (.v (.int .u8 0)) ++ ((hex6 n).drop (6 - k)).map byteI
def hexLen (n : Nat) : Nat := if n < 16 then 1 else if n < 256 then 2 else if n < 4096 then 3 else if n < 65536 then 4 else if n < 1048576 then 5 else 6
def hexS (n : Nat) : List UInt8 := (hex6 n).drop (6 - hexLen n)
def digB : List UInt8 := [48, 49, 50, 51, 52, 53, 54, 55, 56, 57, 97, 98, 99, 100, 101, 102, 103, 104, 105, 106, 107, 108, 109, 110, 111, 112, 113, 114, 115, 116, 117, 118, 119, 120, 121, 122]
theorem digB_at : ∀ d, d < 16 → digB.getD d 0 = hexD d := by decide
noncomputable def cfgFb (N b : Nat) : Cfg := { P := Go.Proofs.Tryz.prog, T := tt, wr := false, N := N, pure := [], base := b, cuts := [1030] }
theorem cfgFbOk (N b : Nat) : (cfgFb N b).Ok := ⟨ttOk, ttBytes, by kernel_rfl⟩
theorem and15 (m : Nat) (h : m < 18446744073709551616) : bitK .and .u64 (m : Int) 15 = ((m % 16 : Nat) : Int) := by
 show IntKind.u64.wrap ((BitVec.ofInt 64 (m : Int) &&& BitVec.ofInt 64 15).toNat : Nat) = _
 rw [BitVec.ofInt_natCast, BitVec.toNat_and, BitVec.toNat_ofNat, Nat.mod_eq_of_lt (by omega), show (BitVec.ofInt 64 15).toNat = 2 ^ 4 - 1 from rfl, Nat.and_two_pow_sub_one_eq_mod]
 simp [IntKind.wrap, IntKind.bits, IntKind.signed]
 omega
theorem shr4 (m : Nat) : (m : Int) / (2 : Int) ^ (min (Int.toNat 4) IntKind.u64.bits) = ((m / 16 : Nat) : Int) := by
 show (m : Int) / (2 : Int) ^ 4 = _
 omega
theorem fmtBits_ok (n : Nat) (h : IsId n) : AFn Go.Proofs.Tryz.prog 198 [.iv (.v (.slice none 0 0)), AV.int .u64 n, AV.int .i64 16, AV.bool false, AV.bool false] ⟨0, []⟩ (fun _ : Unit => .tup [.iv (.bs []), .str (hexS n)]) (fun _ => ⟨0, []⟩) := by
 obtain ⟨h1, h2⟩ := h
 have hb : ∀ c : UInt8, c.toNat ≤ 255 := fun c => Nat.le_of_lt_succ c.toNat_lt
 have b0 := hb (hexD (n % 16))
 have b1 := hb (hexD (n / 16 % 16))
 have b2 := hb (hexD (n / 256 % 16))
 have b3 := hb (hexD (n / 4096 % 16))
 have b4 := hb (hexD (n / 65536 % 16))
 have b5 := hb (hexD (n / 1048576 % 16))
 refine ACall.fin ?_
 refine ACall.walk (C := cfgFb 102 0) (cfgFbOk _ _) [] (fn := Go.Proofs.Tryz.f198) (by kernel_rfl) (by kernel_rfl) rfl (by kernel_rfl) (by kernel_rfl) rfl rfl ?_
 refine goA ?_
 refine AFn.useA [] (isPow2_ok) fun _ => ?_
 refine goA ?_
 refine AFn.useA [] (tz2_ok) fun _ => ?_
 refine goA ?_
 refine AWP.loop (X := { k : Nat // k ≤ 5 ∧ 16 ^ k ≤ n }) (fun x => [(1, AV.int .u64 (n / 16 ^ x.1 : Nat)), (3, AV.bool false), (4, AV.bool false), (10, .iv (.v (.slice none 0 0))), (12, .ptr 0 0), (13, AV.int .i64 (65 - x.1 : Nat)), (14, AV.int .u64 4), (15, AV.int .u64 16), (16, AV.int .u64 15)]) (fun x => ⟨1, [(0, .cells 324 ((aI n x.1).map AV.iv))]⟩) (fun x => 6 - x.1) (⟨0, by decide, h1⟩) ?_ fun x => AWP.go (S := []) (cfgFbOk _ _) (.of_eq (by kernel_rfl)) ?_
 ·exact Ent.mk' [some 0] (by kernel_rfl) ⟨AVE.int (by simp), AVE.refl _, AVE.refl _, AVE.refl _, AVE.refl _, AVE.refl _, AVE.refl _, AVE.refl _, AVE.int (by decide), trivial⟩ subC
 ·obtain ⟨k, hk, hp⟩ := x
  have : k = 0 ∨ k = 1 ∨ k = 2 ∨ k = 3 ∨ k = 4 ∨ k = 5 := by omega
  rcases this with rfl | rfl | rfl | rfl | rfl | rfl
  ·dsimp only
   have he := digB_at (n / 16 ^ 0 % 16) (Nat.mod_lt _ (by decide))
   have e0 : hexD (n / 16 ^ 0 % 16) = hexD (n % 16) := congrArg (fun m => hexD (m % 16)) (Nat.div_one n)
   refine goA ?_
   refine ifdA (fun h => ?_) (fun h => ?_) <;> (try dsimp only at h)
   ·have hd : n / 16 ^ 0 / 16 = n / 16 ^ 1 := by rw [Nat.div_div_eq_div_mul]
    have hlt : n / 16 ^ 0 < 18446744073709551616 := Nat.lt_of_le_of_lt (Nat.div_le_self _ _) (by omega)
    have hp' : 16 ^ 1 ≤ n := Nat.le_trans (by decide : 16 ^ 1 ≤ 16 * 16 ^ 0) ((Nat.le_div_iff_mul_le (show 0 < 16 ^ 0 by decide)).1 (show 16 ≤ n / 16 ^ 0 by omega))
    refine goA ?_
    rw [and15 _ hlt]
    refine goA ?_
    exact ⟨⟨1, by decide, hp'⟩, Ent.mk' [some 0] (by kernel_rfl) ⟨AVE.int ((shr4 _).trans (by rw [hd])), AVE.refl _, AVE.refl _, AVE.refl _, AVE.refl _, AVE.int rfl, AVE.refl _, AVE.refl _, AVE.refl _, trivial⟩ ⟨⟨_, rfl, ChE.of_eq (congrArg (fun c : UInt8 => Chunk.cells 324 ((List.replicate 64 (IV.v (.int .u8 0)) ++ byteI c :: ((hex6 n).drop 6).map byteI).map AV.iv)) (he.trans e0))⟩, trivial⟩, (by decide : 6 - 1 < 6 - 0)⟩
   ·have hh : n / 16 ^ 0 % 16 = n / 16 ^ 0 := Nat.mod_eq_of_lt (by omega)
    have hl : hexLen n = 1 := by
     have hp2 : 1 ≤ n := hp
     have h3 : n < 16 := by
      have := Nat.div_lt_iff_lt_mul (show 0 < 16 ^ 0 by decide) (x := n) (y := 16)
      omega
     unfold hexLen
     repeat' (first | rw [if_pos (by omega)] | rw [if_neg (by omega)])
    refine goA ?_
    have he' : digB.getD (n / 16 ^ 0) 0 = hexD (n / 16 ^ 0 % 16) := (congrArg (fun d => digB.getD d 0) hh).symm.trans he
    refine AWP.of_ent (Ent.mk' (e' := [(10, .iv (.v (.slice none 0 0))), (12, .ptr 0 0), (13, AV.int .i64 64)]) (H' := ⟨1, [(0, .cells 324 ((aI n 1).map AV.iv))]⟩) [some 0] (by kernel_rfl) ⟨AVE.refl _, AVE.refl _, AVE.int rfl, trivial⟩ ⟨⟨_, rfl, ChE.of_eq (congrArg (fun c : UInt8 => Chunk.cells 324 ((List.replicate 64 (IV.v (.int .u8 0)) ++ byteI c :: ((hex6 n).drop 6).map byteI).map AV.iv)) (he'.trans e0))⟩, trivial⟩) ?_
    refine AWP.of_ent (Ent.freezeC 0 (aI n 1) rfl rfl (e' := [(10, .iv (.v (.slice none 0 0))), (12, .iv (.pp (aI n 1))), (13, AV.int .i64 64)]) ⟨AVC.same _ _ _, AVC.here _ _, AVC.same _ _ _, trivial⟩) ?_
    refine AWP.reg (cfgFbOk _ _) ?_
    refine goA ?_
    have hs : hexS n = (hex6 n).drop 5 := by unfold hexS; rw [hl]
    rw [hs]
    refine ⟨_, _, Ent.mk' (e' := [(0, .tup [.iv (.bs []), .str ((hex6 n).drop 5)])]) (H' := ⟨0, []⟩) [] (by kernel_rfl) ⟨AVE.tupE (by exact ⟨AVE.nilBs, AVE.of_eq (congrArg (fun l => AV.iv (IV.str l)) (by simp [hex6])), rfl⟩), trivial⟩ trivial, (), rfl, rfl⟩
  ·dsimp only
   have he := digB_at (n / 16 ^ 1 % 16) (Nat.mod_lt _ (by decide))
   refine goA ?_
   refine ifdA (fun h => ?_) (fun h => ?_) <;> (try dsimp only at h)
   ·have hd : n / 16 ^ 1 / 16 = n / 16 ^ 2 := by rw [Nat.div_div_eq_div_mul]
    have hlt : n / 16 ^ 1 < 18446744073709551616 := Nat.lt_of_le_of_lt (Nat.div_le_self _ _) (by omega)
    have hp' : 16 ^ 2 ≤ n := Nat.le_trans (by decide : 16 ^ 2 ≤ 16 * 16 ^ 1) ((Nat.le_div_iff_mul_le (show 0 < 16 ^ 1 by decide)).1 (show 16 ≤ n / 16 ^ 1 by omega))
    refine goA ?_
    rw [and15 _ hlt]
    refine goA ?_
    exact ⟨⟨2, by decide, hp'⟩, Ent.mk' [some 0] (by kernel_rfl) ⟨AVE.int ((shr4 _).trans (by rw [hd])), AVE.refl _, AVE.refl _, AVE.refl _, AVE.refl _, AVE.int rfl, AVE.refl _, AVE.refl _, AVE.refl _, trivial⟩ ⟨⟨_, rfl, ChE.of_eq (congrArg (fun c : UInt8 => Chunk.cells 324 ((List.replicate 63 (IV.v (.int .u8 0)) ++ byteI c :: ((hex6 n).drop 5).map byteI).map AV.iv)) he)⟩, trivial⟩, (by decide : 6 - 2 < 6 - 1)⟩
   ·have hh : n / 16 ^ 1 % 16 = n / 16 ^ 1 := Nat.mod_eq_of_lt (by omega)
    have hl : hexLen n = 2 := by
     have hp2 : 16 ≤ n := hp
     have h3 : n < 256 := by
      have := Nat.div_lt_iff_lt_mul (show 0 < 16 ^ 1 by decide) (x := n) (y := 16)
      omega
     unfold hexLen
     repeat' (first | rw [if_pos (by omega)] | rw [if_neg (by omega)])
    refine goA ?_
    have he' : digB.getD (n / 16 ^ 1) 0 = hexD (n / 16 ^ 1 % 16) := (congrArg (fun d => digB.getD d 0) hh).symm.trans he
    refine AWP.of_ent (Ent.mk' (e' := [(10, .iv (.v (.slice none 0 0))), (12, .ptr 0 0), (13, AV.int .i64 63)]) (H' := ⟨1, [(0, .cells 324 ((aI n 2).map AV.iv))]⟩) [some 0] (by kernel_rfl) ⟨AVE.refl _, AVE.refl _, AVE.int rfl, trivial⟩ ⟨⟨_, rfl, ChE.of_eq (congrArg (fun c : UInt8 => Chunk.cells 324 ((List.replicate 63 (IV.v (.int .u8 0)) ++ byteI c :: ((hex6 n).drop 5).map byteI).map AV.iv)) he')⟩, trivial⟩) ?_
    refine AWP.of_ent (Ent.freezeC 0 (aI n 2) rfl rfl (e' := [(10, .iv (.v (.slice none 0 0))), (12, .iv (.pp (aI n 2))), (13, AV.int .i64 63)]) ⟨AVC.same _ _ _, AVC.here _ _, AVC.same _ _ _, trivial⟩) ?_
    refine AWP.reg (cfgFbOk _ _) ?_
    refine goA ?_
    have hs : hexS n = (hex6 n).drop 4 := by unfold hexS; rw [hl]
    rw [hs]
    refine ⟨_, _, Ent.mk' (e' := [(0, .tup [.iv (.bs []), .str ((hex6 n).drop 4)])]) (H' := ⟨0, []⟩) [] (by kernel_rfl) ⟨AVE.tupE (by exact ⟨AVE.nilBs, AVE.of_eq (congrArg (fun l => AV.iv (IV.str l)) (by simp [hex6])), rfl⟩), trivial⟩ trivial, (), rfl, rfl⟩
  ·dsimp only
   have he := digB_at (n / 16 ^ 2 % 16) (Nat.mod_lt _ (by decide))
   refine goA ?_
   refine ifdA (fun h => ?_) (fun h => ?_) <;> (try dsimp only at h)
   ·have hd : n / 16 ^ 2 / 16 = n / 16 ^ 3 := by rw [Nat.div_div_eq_div_mul]
    have hlt : n / 16 ^ 2 < 18446744073709551616 := Nat.lt_of_le_of_lt (Nat.div_le_self _ _) (by omega)
    have hp' : 16 ^ 3 ≤ n := Nat.le_trans (by decide : 16 ^ 3 ≤ 16 * 16 ^ 2) ((Nat.le_div_iff_mul_le (show 0 < 16 ^ 2 by decide)).1 (show 16 ≤ n / 16 ^ 2 by omega))
    refine goA ?_
    rw [and15 _ hlt]
    refine goA ?_
    exact ⟨⟨3, by decide, hp'⟩, Ent.mk' [some 0] (by kernel_rfl) ⟨AVE.int ((shr4 _).trans (by rw [hd])), AVE.refl _, AVE.refl _, AVE.refl _, AVE.refl _, AVE.int rfl, AVE.refl _, AVE.refl _, AVE.refl _, trivial⟩ ⟨⟨_, rfl, ChE.of_eq (congrArg (fun c : UInt8 => Chunk.cells 324 ((List.replicate 62 (IV.v (.int .u8 0)) ++ byteI c :: ((hex6 n).drop 4).map byteI).map AV.iv)) he)⟩, trivial⟩, (by decide : 6 - 3 < 6 - 2)⟩
   ·have hh : n / 16 ^ 2 % 16 = n / 16 ^ 2 := Nat.mod_eq_of_lt (by omega)
    have hl : hexLen n = 3 := by
     have hp2 : 256 ≤ n := hp
     have h3 : n < 4096 := by
      have := Nat.div_lt_iff_lt_mul (show 0 < 16 ^ 2 by decide) (x := n) (y := 16)
      omega
     unfold hexLen
     repeat' (first | rw [if_pos (by omega)] | rw [if_neg (by omega)])
    refine goA ?_
    have he' : digB.getD (n / 16 ^ 2) 0 = hexD (n / 16 ^ 2 % 16) := (congrArg (fun d => digB.getD d 0) hh).symm.trans he
    refine AWP.of_ent (Ent.mk' (e' := [(10, .iv (.v (.slice none 0 0))), (12, .ptr 0 0), (13, AV.int .i64 62)]) (H' := ⟨1, [(0, .cells 324 ((aI n 3).map AV.iv))]⟩) [some 0] (by kernel_rfl) ⟨AVE.refl _, AVE.refl _, AVE.int rfl, trivial⟩ ⟨⟨_, rfl, ChE.of_eq (congrArg (fun c : UInt8 => Chunk.cells 324 ((List.replicate 62 (IV.v (.int .u8 0)) ++ byteI c :: ((hex6 n).drop 4).map byteI).map AV.iv)) he')⟩, trivial⟩) ?_
    refine AWP.of_ent (Ent.freezeC 0 (aI n 3) rfl rfl (e' := [(10, .iv (.v (.slice none 0 0))), (12, .iv (.pp (aI n 3))), (13, AV.int .i64 62)]) ⟨AVC.same _ _ _, AVC.here _ _, AVC.same _ _ _, trivial⟩) ?_
    refine AWP.reg (cfgFbOk _ _) ?_
    refine goA ?_
    have hs : hexS n = (hex6 n).drop 3 := by unfold hexS; rw [hl]
    rw [hs]
    refine ⟨_, _, Ent.mk' (e' := [(0, .tup [.iv (.bs []), .str ((hex6 n).drop 3)])]) (H' := ⟨0, []⟩) [] (by kernel_rfl) ⟨AVE.tupE (by exact ⟨AVE.nilBs, AVE.of_eq (congrArg (fun l => AV.iv (IV.str l)) (by simp [hex6])), rfl⟩), trivial⟩ trivial, (), rfl, rfl⟩
  ·dsimp only
   have he := digB_at (n / 16 ^ 3 % 16) (Nat.mod_lt _ (by decide))
   refine goA ?_
   refine ifdA (fun h => ?_) (fun h => ?_) <;> (try dsimp only at h)
   ·have hd : n / 16 ^ 3 / 16 = n / 16 ^ 4 := by rw [Nat.div_div_eq_div_mul]
    have hlt : n / 16 ^ 3 < 18446744073709551616 := Nat.lt_of_le_of_lt (Nat.div_le_self _ _) (by omega)
    have hp' : 16 ^ 4 ≤ n := Nat.le_trans (by decide : 16 ^ 4 ≤ 16 * 16 ^ 3) ((Nat.le_div_iff_mul_le (show 0 < 16 ^ 3 by decide)).1 (show 16 ≤ n / 16 ^ 3 by omega))
    refine goA ?_
    rw [and15 _ hlt]
    refine goA ?_
    exact ⟨⟨4, by decide, hp'⟩, Ent.mk' [some 0] (by kernel_rfl) ⟨AVE.int ((shr4 _).trans (by rw [hd])), AVE.refl _, AVE.refl _, AVE.refl _, AVE.refl _, AVE.int rfl, AVE.refl _, AVE.refl _, AVE.refl _, trivial⟩ ⟨⟨_, rfl, ChE.of_eq (congrArg (fun c : UInt8 => Chunk.cells 324 ((List.replicate 61 (IV.v (.int .u8 0)) ++ byteI c :: ((hex6 n).drop 3).map byteI).map AV.iv)) he)⟩, trivial⟩, (by decide : 6 - 4 < 6 - 3)⟩
   ·have hh : n / 16 ^ 3 % 16 = n / 16 ^ 3 := Nat.mod_eq_of_lt (by omega)
    have hl : hexLen n = 4 := by
     have hp2 : 4096 ≤ n := hp
     have h3 : n < 65536 := by
      have := Nat.div_lt_iff_lt_mul (show 0 < 16 ^ 3 by decide) (x := n) (y := 16)
      omega
     unfold hexLen
     repeat' (first | rw [if_pos (by omega)] | rw [if_neg (by omega)])
    refine goA ?_
    have he' : digB.getD (n / 16 ^ 3) 0 = hexD (n / 16 ^ 3 % 16) := (congrArg (fun d => digB.getD d 0) hh).symm.trans he
    refine AWP.of_ent (Ent.mk' (e' := [(10, .iv (.v (.slice none 0 0))), (12, .ptr 0 0), (13, AV.int .i64 61)]) (H' := ⟨1, [(0, .cells 324 ((aI n 4).map AV.iv))]⟩) [some 0] (by kernel_rfl) ⟨AVE.refl _, AVE.refl _, AVE.int rfl, trivial⟩ ⟨⟨_, rfl, ChE.of_eq (congrArg (fun c : UInt8 => Chunk.cells 324 ((List.replicate 61 (IV.v (.int .u8 0)) ++ byteI c :: ((hex6 n).drop 3).map byteI).map AV.iv)) he')⟩, trivial⟩) ?_
    refine AWP.of_ent (Ent.freezeC 0 (aI n 4) rfl rfl (e' := [(10, .iv (.v (.slice none 0 0))), (12, .iv (.pp (aI n 4))), (13, AV.int .i64 61)]) ⟨AVC.same _ _ _, AVC.here _ _, AVC.same _ _ _, trivial⟩) ?_
    refine AWP.reg (cfgFbOk _ _) ?_
    refine goA ?_
    have hs : hexS n = (hex6 n).drop 2 := by unfold hexS; rw [hl]
    rw [hs]
    refine ⟨_, _, Ent.mk' (e' := [(0, .tup [.iv (.bs []), .str ((hex6 n).drop 2)])]) (H' := ⟨0, []⟩) [] (by kernel_rfl) ⟨AVE.tupE (by exact ⟨AVE.nilBs, AVE.of_eq (congrArg (fun l => AV.iv (IV.str l)) (by simp [hex6])), rfl⟩), trivial⟩ trivial, (), rfl, rfl⟩
  ·dsimp only
   have he := digB_at (n / 16 ^ 4 % 16) (Nat.mod_lt _ (by decide))
   refine goA ?_
   refine ifdA (fun h => ?_) (fun h => ?_) <;> (try dsimp only at h)
   ·have hd : n / 16 ^ 4 / 16 = n / 16 ^ 5 := by rw [Nat.div_div_eq_div_mul]
    have hlt : n / 16 ^ 4 < 18446744073709551616 := Nat.lt_of_le_of_lt (Nat.div_le_self _ _) (by omega)
    have hp' : 16 ^ 5 ≤ n := Nat.le_trans (by decide : 16 ^ 5 ≤ 16 * 16 ^ 4) ((Nat.le_div_iff_mul_le (show 0 < 16 ^ 4 by decide)).1 (show 16 ≤ n / 16 ^ 4 by omega))
    refine goA ?_
    rw [and15 _ hlt]
    refine goA ?_
    exact ⟨⟨5, by decide, hp'⟩, Ent.mk' [some 0] (by kernel_rfl) ⟨AVE.int ((shr4 _).trans (by rw [hd])), AVE.refl _, AVE.refl _, AVE.refl _, AVE.refl _, AVE.int rfl, AVE.refl _, AVE.refl _, AVE.refl _, trivial⟩ ⟨⟨_, rfl, ChE.of_eq (congrArg (fun c : UInt8 => Chunk.cells 324 ((List.replicate 60 (IV.v (.int .u8 0)) ++ byteI c :: ((hex6 n).drop 2).map byteI).map AV.iv)) he)⟩, trivial⟩, (by decide : 6 - 5 < 6 - 4)⟩
   ·have hh : n / 16 ^ 4 % 16 = n / 16 ^ 4 := Nat.mod_eq_of_lt (by omega)
    have hl : hexLen n = 5 := by
     have hp2 : 65536 ≤ n := hp
     have h3 : n < 1048576 := by
      have := Nat.div_lt_iff_lt_mul (show 0 < 16 ^ 4 by decide) (x := n) (y := 16)
      omega
     unfold hexLen
     repeat' (first | rw [if_pos (by omega)] | rw [if_neg (by omega)])
    refine goA ?_
    have he' : digB.getD (n / 16 ^ 4) 0 = hexD (n / 16 ^ 4 % 16) := (congrArg (fun d => digB.getD d 0) hh).symm.trans he
    refine AWP.of_ent (Ent.mk' (e' := [(10, .iv (.v (.slice none 0 0))), (12, .ptr 0 0), (13, AV.int .i64 60)]) (H' := ⟨1, [(0, .cells 324 ((aI n 5).map AV.iv))]⟩) [some 0] (by kernel_rfl) ⟨AVE.refl _, AVE.refl _, AVE.int rfl, trivial⟩ ⟨⟨_, rfl, ChE.of_eq (congrArg (fun c : UInt8 => Chunk.cells 324 ((List.replicate 60 (IV.v (.int .u8 0)) ++ byteI c :: ((hex6 n).drop 2).map byteI).map AV.iv)) he')⟩, trivial⟩) ?_
    refine AWP.of_ent (Ent.freezeC 0 (aI n 5) rfl rfl (e' := [(10, .iv (.v (.slice none 0 0))), (12, .iv (.pp (aI n 5))), (13, AV.int .i64 60)]) ⟨AVC.same _ _ _, AVC.here _ _, AVC.same _ _ _, trivial⟩) ?_
    refine AWP.reg (cfgFbOk _ _) ?_
    refine goA ?_
    have hs : hexS n = (hex6 n).drop 1 := by unfold hexS; rw [hl]
    rw [hs]
    refine ⟨_, _, Ent.mk' (e' := [(0, .tup [.iv (.bs []), .str ((hex6 n).drop 1)])]) (H' := ⟨0, []⟩) [] (by kernel_rfl) ⟨AVE.tupE (by exact ⟨AVE.nilBs, AVE.of_eq (congrArg (fun l => AV.iv (IV.str l)) (by simp [hex6])), rfl⟩), trivial⟩ trivial, (), rfl, rfl⟩
  ·dsimp only
   have he := digB_at (n / 16 ^ 5 % 16) (Nat.mod_lt _ (by decide))
   refine goA ?_
   refine ifdA (fun h => ?_) (fun h => ?_) <;> (try dsimp only at h)
   ·exfalso
    have : n / 16 ^ 5 < 16 := by rw [show 16 ^ 5 = 1048576 from rfl]; omega
    omega
   ·have hh : n / 16 ^ 5 % 16 = n / 16 ^ 5 := Nat.mod_eq_of_lt (by omega)
    have hl : hexLen n = 6 := by
     have hp2 : 1048576 ≤ n := hp
     have h3 : n < 16777216 := by
      have := Nat.div_lt_iff_lt_mul (show 0 < 16 ^ 5 by decide) (x := n) (y := 16)
      omega
     unfold hexLen
     repeat' (first | rw [if_pos (by omega)] | rw [if_neg (by omega)])
    refine goA ?_
    have he' : digB.getD (n / 16 ^ 5) 0 = hexD (n / 16 ^ 5 % 16) := (congrArg (fun d => digB.getD d 0) hh).symm.trans he
    refine AWP.of_ent (Ent.mk' (e' := [(10, .iv (.v (.slice none 0 0))), (12, .ptr 0 0), (13, AV.int .i64 59)]) (H' := ⟨1, [(0, .cells 324 ((aI n 6).map AV.iv))]⟩) [some 0] (by kernel_rfl) ⟨AVE.refl _, AVE.refl _, AVE.int rfl, trivial⟩ ⟨⟨_, rfl, ChE.of_eq (congrArg (fun c : UInt8 => Chunk.cells 324 ((List.replicate 59 (IV.v (.int .u8 0)) ++ byteI c :: ((hex6 n).drop 1).map byteI).map AV.iv)) he')⟩, trivial⟩) ?_
    refine AWP.of_ent (Ent.freezeC 0 (aI n 6) rfl rfl (e' := [(10, .iv (.v (.slice none 0 0))), (12, .iv (.pp (aI n 6))), (13, AV.int .i64 59)]) ⟨AVC.same _ _ _, AVC.here _ _, AVC.same _ _ _, trivial⟩) ?_
    refine AWP.reg (cfgFbOk _ _) ?_
    refine goA ?_
    have hs : hexS n = (hex6 n).drop 0 := by unfold hexS; rw [hl]
    rw [hs]
    refine ⟨_, _, Ent.mk' (e' := [(0, .tup [.iv (.bs []), .str ((hex6 n).drop 0)])]) (H' := ⟨0, []⟩) [] (by kernel_rfl) ⟨AVE.tupE (by exact ⟨AVE.nilBs, AVE.of_eq (congrArg (fun l => AV.iv (IV.str l)) (by simp [hex6])), rfl⟩), trivial⟩ trivial, (), rfl, rfl⟩
end Go.Proofs.YtgfkepebfaiepaaGreatDoor.Ax

namespace Go.Proofs.YtgfkepebfaiepaaGreatDoor.Ax
open Go.RowKit
set_option maxRecDepth 100000
theorem fmtI_ok (n : Nat) (h : IsId n) : AFn Go.Proofs.Tryz.prog 130 [AV.int .u64 n, AV.int .i64 16] ⟨0, []⟩ (fun _ : Unit => .str (hexS n)) (fun _ => ⟨0, []⟩) := by
 refine ACall.fin ?_
 refine ACall.walk (C := cfg 32 0) (cfgOk _ _) [] (fn := Go.Proofs.Tryz.f130) (by kernel_rfl) (by kernel_rfl) rfl (by kernel_rfl) (by kernel_rfl) rfl rfl ?_
 refine goA ?_
 refine AFn.useA [] (fmtBits_ok n h) fun _ => ?_
 refine goA ?_
 refine ⟨_, _, Ent.mk' (e' := [(0, .str (hexS n))]) (H' := ⟨0, []⟩) [] (by kernel_rfl) ?_ ?_, (), rfl, rfl⟩
 ·exact ⟨AVE.refl _, trivial⟩
 ·trivial
theorem fmt_ok (n : Nat) (h : IsId n) : AFn Go.Proofs.Tryz.prog 66 [AV.int .u64 n, AV.int .i64 16] ⟨0, []⟩ (fun _ : Unit => .str (hexS n)) (fun _ => ⟨0, []⟩) := by
 refine ACall.fin ?_
 refine ACall.walk (C := cfg 8 0) (cfgOk _ _) [] (fn := Go.Proofs.Tryz.f66) (by kernel_rfl) (by kernel_rfl) rfl (by kernel_rfl) (by kernel_rfl) rfl rfl ?_
 refine goA ?_
 refine AFn.useA [] (fmtI_ok n h) fun _ => ?_
 refine goA ?_
 refine ⟨_, _, Ent.mk' (e' := [(0, .str (hexS n))]) (H' := ⟨0, []⟩) [] (by kernel_rfl) ?_ ?_, (), rfl, rfl⟩
 ·exact ⟨AVE.refl _, trivial⟩
 ·trivial
theorem hasPref_ok {X : List UInt8} {b : Bool} (h : (X = List.replicate 64 48 ∧ b = true) ∨ (X = List.replicate 128 32 ∧ b = false) ∨ (X = List.replicate 128 45 ∧ b = false)) : AFn Go.Proofs.Tryz.prog 201 [.str X, .str [48]] ⟨0, []⟩ (fun _ : Unit => AV.bool b) (fun _ => ⟨0, []⟩) := by
 rcases h with ⟨rfl, rfl⟩ | ⟨rfl, rfl⟩ | ⟨rfl, rfl⟩
 all_goals
  refine ACall.fin ?_
  refine ACall.walk (C := cfg 18 0) (cfgOk _ _) [] (fn := Go.Proofs.Tryz.f201) (by kernel_rfl) (by kernel_rfl) rfl (by kernel_rfl) (by kernel_rfl) rfl rfl ?_
  refine goA ?_
  exact ⟨_, _, Ent.mk' (H' := ⟨0, []⟩) [] (by kernel_rfl) ⟨AVE.of_eq (by kernel_rfl), trivial⟩ trivial, (), rfl, rfl⟩
theorem hasPrefix_ok {X : List UInt8} {b : Bool} (h : (X = List.replicate 64 48 ∧ b = true) ∨ (X = List.replicate 128 32 ∧ b = false) ∨ (X = List.replicate 128 45 ∧ b = false)) : AFn Go.Proofs.Tryz.prog 132 [.str X, .str [48]] ⟨0, []⟩ (fun _ : Unit => AV.bool b) (fun _ => ⟨0, []⟩) := by
 refine ACall.fin ?_
 refine ACall.walk (C := cfg 8 0) (cfgOk _ _) [] (fn := Go.Proofs.Tryz.f132) (by kernel_rfl) (by kernel_rfl) rfl (by kernel_rfl) (by kernel_rfl) rfl rfl ?_
 refine goA ?_
 refine AFn.useA [] (hasPref_ok h) fun _ => ?_
 refine goA ?_
 refine ⟨_, _, Ent.mk' (e' := [(0, AV.bool b)]) (H' := ⟨0, []⟩) [] (by kernel_rfl) ?_ ?_, (), rfl, rfl⟩
 ·exact ⟨AVE.refl _, trivial⟩
 ·trivial
theorem mul64_ok (k : Nat) (hk : k = 2 ∨ k = 3 ∨ k = 4 ∨ k = 5) : AFn Go.Proofs.Tryz.prog 200 [AV.int .u64 1, AV.int .u64 k] ⟨0, []⟩ (fun _ : Unit => .tup [AV.int .u64 0, AV.int .u64 k]) (fun _ => ⟨0, []⟩) := by
 rcases hk with rfl | rfl | rfl | rfl
 all_goals
  refine ACall.fin ?_
  refine ACall.walk (C := cfgWr 51 0) (cfgWrOk _ _) [] (fn := Go.Proofs.Tryz.f200) (by kernel_rfl) (by kernel_rfl) rfl (by kernel_rfl) (by kernel_rfl) rfl rfl ?_
  refine goA ?_
  exact ⟨_, _, Ent.mk' (H' := ⟨0, []⟩) [] (by kernel_rfl) ⟨AVE.of_eq (by kernel_rfl), trivial⟩ trivial, (), rfl, rfl⟩
theorem mul_ok (k : Nat) (hk : k = 2 ∨ k = 3 ∨ k = 4 ∨ k = 5) : AFn Go.Proofs.Tryz.prog 131 [AV.int .u64 1, AV.int .u64 k] ⟨0, []⟩ (fun _ : Unit => .tup [AV.int .u64 0, AV.int .u64 k]) (fun _ => ⟨0, []⟩) := by
 refine ACall.fin ?_
 refine ACall.walk (C := cfg 30 0) (cfgOk _ _) [] (fn := Go.Proofs.Tryz.f131) (by kernel_rfl) (by kernel_rfl) rfl (by kernel_rfl) (by kernel_rfl) rfl rfl ?_
 refine goA ?_
 refine AFn.useA [] (mul64_ok k hk) fun _ => ?_
 refine goA ?_
 refine ⟨_, _, Ent.mk' (e' := [(0, .tup [AV.int .u64 0, AV.int .u64 k])]) (H' := ⟨0, []⟩) [] (by kernel_rfl) ?_ ?_, (), rfl, rfl⟩
 ·exact ⟨AVE.refl _, trivial⟩
 ·trivial
theorem repeat_ok (k : Nat) (hk : k ≤ 5) : AFn Go.Proofs.Tryz.prog 67 [.str [48], AV.int .i64 k] ⟨0, []⟩ (fun _ : Unit => .str (List.replicate k 48)) (fun _ => ⟨0, []⟩) := by
 have hm := mul_ok k
 have : k = 0 ∨ k = 1 ∨ k = 2 ∨ k = 3 ∨ k = 4 ∨ k = 5 := by omega
 rcases this with rfl | rfl | rfl | rfl | rfl | rfl
 ·refine ACall.fin ?_
  refine ACall.walk (C := cfg 125 0) (cfgOk _ _) [] (fn := Go.Proofs.Tryz.f67) (by kernel_rfl) (by kernel_rfl) rfl (by kernel_rfl) (by kernel_rfl) rfl rfl ?_
  refine goA ?_
  refine ⟨_, _, Ent.mk' (e' := [(0, .str [])]) (H' := ⟨0, []⟩) [] (by kernel_rfl) ?_ ?_, (), rfl, rfl⟩
  ·exact ⟨AVE.refl _, trivial⟩
  ·trivial
 ·refine ACall.fin ?_
  refine ACall.walk (C := cfg 125 0) (cfgOk _ _) [] (fn := Go.Proofs.Tryz.f67) (by kernel_rfl) (by kernel_rfl) rfl (by kernel_rfl) (by kernel_rfl) rfl rfl ?_
  refine goA ?_
  refine ⟨_, _, Ent.mk' (e' := [(0, .str [48])]) (H' := ⟨0, []⟩) [] (by kernel_rfl) ?_ ?_, (), rfl, rfl⟩
  ·exact ⟨AVE.refl _, trivial⟩
  ·trivial
 all_goals
  refine ACall.fin ?_
  refine ACall.walk (C := cfg 125 0) (cfgOk _ _) [] (fn := Go.Proofs.Tryz.f67) (by kernel_rfl) (by kernel_rfl) rfl (by kernel_rfl) (by kernel_rfl) rfl rfl ?_
  refine goA ?_
  refine AFn.useA [] (hm (by decide)) fun _ => ?_
  refine goA ?_
  refine AFn.useA [] (hasPrefix_ok (.inr (.inl ⟨rfl, rfl⟩))) fun _ => ?_
  refine goA ?_
  refine AFn.useA [] (hasPrefix_ok (.inr (.inr ⟨rfl, rfl⟩))) fun _ => ?_
  refine goA ?_
  refine AFn.useA [] (hasPrefix_ok (.inl ⟨rfl, rfl⟩)) fun _ => ?_
  refine goA ?_
  exact ⟨_, _, Ent.mk' (H' := ⟨0, []⟩) [] (by kernel_rfl) ⟨AVE.of_eq (by kernel_rfl), trivial⟩ trivial, (), rfl, rfl⟩
theorem hexLen_le (n : Nat) : 1 ≤ hexLen n ∧ hexLen n ≤ 6 := by
 unfold hexLen
 repeat' (first | split | omega)
theorem name_eq {n : Nat} (h : IsId n) : segB ++ List.replicate (6 - hexLen n) 48 ++ hexS n = segName n := by
 obtain ⟨h1, h2⟩ := h
 have z : ∀ m, m = 0 → hexD (m % 16) = 48 := fun m h => by rw [h]; rfl
 unfold segName hexS
 rw [if_pos ⟨h1, h2⟩]
 rw [List.append_assoc]
 congr 1
 unfold hexLen
 split
 ·simp only [hex6]
  rw [z _ (show n / 1048576 = 0 by omega), z _ (show n / 65536 = 0 by omega), z _ (show n / 4096 = 0 by omega), z _ (show n / 256 = 0 by omega), z _ (show n / 16 = 0 by omega)]
  rfl
 ·split
  ·simp only [hex6]
   rw [z _ (show n / 1048576 = 0 by omega), z _ (show n / 65536 = 0 by omega), z _ (show n / 4096 = 0 by omega), z _ (show n / 256 = 0 by omega)]
   rfl
  ·split
   ·simp only [hex6]
    rw [z _ (show n / 1048576 = 0 by omega), z _ (show n / 65536 = 0 by omega), z _ (show n / 4096 = 0 by omega)]
    rfl
   ·split
    ·simp only [hex6]
     rw [z _ (show n / 1048576 = 0 by omega), z _ (show n / 65536 = 0 by omega)]
     rfl
    ·split
     ·simp only [hex6]
      rw [z _ (show n / 1048576 = 0 by omega)]
      rfl
     ·rfl
theorem segName_ok (n : Nat) (hn : n < 4294967296) : AFn Go.Proofs.Tryz.prog 13 [AV.int .u32 n] ⟨0, []⟩ (fun _ : Unit => .str (segName n)) (fun _ => ⟨0, []⟩) := by
 refine ACall.fin ?_
 refine ACall.walk (C := cfg 17 0) (cfgOk _ _) [] (fn := Go.Proofs.Tryz.f13) (by kernel_rfl) (by kernel_rfl) rfl (by kernel_rfl) (by kernel_rfl) rfl rfl ?_
 refine goA ?_
 refine AFn.useA [] (segIs_ok n) fun _ => ?_
 by_cases h : IsId n
 ·obtain ⟨l1, l2⟩ := hexLen_le n
  have hl : (hexS n).length = hexLen n := by unfold hexS; simp [hex6]; omega
  rw [decide_eq_true h, ← name_eq h]
  refine goA ?_
  refine AFn.useA [] (fmt_ok n h) fun _ => ?_
  refine goA ?_
  rw [show (6 : Int) - ((hexS n).length : Int) = ((6 - hexLen n : Nat) : Int) by rw [hl]; omega]
  refine AFn.useA [] (repeat_ok (6 - hexLen n) (by omega)) fun _ => ?_
  refine goA ?_
  refine ⟨_, _, Ent.mk' (e' := [(0, .str (segB ++ List.replicate (6 - hexLen n) 48 ++ hexS n))]) (H' := ⟨0, []⟩) [] (by kernel_rfl) ?_ ?_, (), rfl, rfl⟩
  ·exact ⟨AVE.refl _, trivial⟩
  ·trivial
 ·rw [decide_eq_false h, show segName n = [] from if_neg h]
  refine goA ?_
  refine ⟨_, _, Ent.mk' (e' := [(0, .str [])]) (H' := ⟨0, []⟩) [] (by kernel_rfl) ?_ ?_, (), rfl, rfl⟩
  ·exact ⟨AVE.refl _, trivial⟩
  ·trivial
end Go.Proofs.YtgfkepebfaiepaaGreatDoor.Ax
