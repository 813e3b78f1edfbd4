/-
  Chapter 23: Apply, Edits, what always holds, the examples.
-/
import Derived.Test.YtmlhaellfpbcgaaDoorQd
import Derived.Test.YtmlhaellfpbcgaaDoorBxZc
namespace Go.Proofs.YtmlhaellfpbcgaaDoor.Ax
open Go.RowKit
set_option maxRecDepth 100000
section
variable (s : SD) (e : Edt)
def SD.f6 : Bool := decide (s.op = 0 ∧ s.last ≤ e.seq ∧ folF e.seals s.top 0 e.seq = true)
def SD.d6 : SD := bif s.f6 e then ⟨e.seq, s.sn, e.seals, s.op⟩ else s
set_option maxHeartbeats 4000000 in
theorem d6_ok (hl : s.sealed.length ≤ 1000) (hl2 : e.seals.length ≤ 1000) : AFn Go.Proofs.Tryd.prog 101 [.ptr 0 0, editA e] (one s.H) (fun _ : Unit => AV.bool (s.f6 e)) (fun _ => one (s.d6 e).H) := by
  refine ACall.fin ?_
  refine ACall.walkE (C := cfg 40 1) (cfgOk _ _) sch101 (fn := Go.Proofs.Tryd.f101) (by kernel_rfl) (by kernel_rfl) rfl (by kernel_rfl) (by kernel_rfl) rfl rfl (H1 := s.H) (fun _ _ => (HEnt.openOne (s.H) rfl rfl).ent) fun hlen hheap => ?_
  (conv => whnf); repeat ((first | (refine And.intro ?_ ?_; (focus ((repeat' (first | exact trivial | refine And.intro rfl ?_)); done))) | (refine And.intro ?_ ?_; (focus (first | omega | (dsimp -iota only; omega) | (simp -iota; omega) | (simp -iota; done) | decide)))); conv => whnf)
  repeat' (first | (refine And.intro ?_ ?_ <;> ((conv => whnf); repeat ((first | (refine And.intro ?_ ?_; (focus ((repeat' (first | exact trivial | refine And.intro rfl ?_)); done))) | (refine And.intro ?_ ?_; (focus (first | omega | (dsimp -iota only; omega) | (simp -iota; omega) | (simp -iota; done) | decide)))); conv => whnf))) | (refine AFn.use [0, 1, 2] (last_in s hl) (by kernel_rfl) rfl (by repeat' first | exact trivial | refine ⟨rfl, ?_⟩) fun _ => ?_; ((conv => whnf); repeat ((first | (refine And.intro ?_ ?_; (focus ((repeat' (first | exact trivial | refine And.intro rfl ?_)); done))) | (refine And.intro ?_ ?_; (focus (first | omega | (dsimp -iota only; omega) | (simp -iota; omega) | (simp -iota; done) | decide)))); conv => whnf))) | (refine AFn.use [0, 1, 2] (top_in s hl) (by kernel_rfl) rfl (by repeat' first | exact trivial | refine ⟨rfl, ?_⟩) fun _ => ?_; ((conv => whnf); repeat ((first | (refine And.intro ?_ ?_; (focus ((repeat' (first | exact trivial | refine And.intro rfl ?_)); done))) | (refine And.intro ?_ ?_; (focus (first | omega | (dsimp -iota only; omega) | (simp -iota; omega) | (simp -iota; done) | decide)))); conv => whnf))) | (refine AFn.use [] (fol_ok e.seals hl2 s.top 0 e.seq) (by kernel_rfl) rfl (by repeat' first | exact trivial | refine ⟨rfl, ?_⟩) fun _ => ?_; ((conv => whnf); repeat ((first | (refine And.intro ?_ ?_; (focus ((repeat' (first | exact trivial | refine And.intro rfl ?_)); done))) | (refine And.intro ?_ ?_; (focus (first | omega | (dsimp -iota only; omega) | (simp -iota; omega) | (simp -iota; done) | decide)))); conv => whnf))) | (refine AFn.use [] (clI_ok e.seals.length hl2 (slF e.seals)) (by kernel_rfl) rfl (by repeat' first | exact trivial | refine ⟨rfl, ?_⟩) fun _ => ?_; ((conv => whnf); repeat ((first | (refine And.intro ?_ ?_; (focus ((repeat' (first | exact trivial | refine And.intro rfl ?_)); done))) | (refine And.intro ?_ ?_; (focus (first | omega | (dsimp -iota only; omega) | (simp -iota; omega) | (simp -iota; done) | decide)))); conv => whnf))) | (refine branchB_of (fun q => ?_) (fun q => ?_) <;> (first | replace q := not_t q | replace q := not_f q | skip) <;> (first | replace q := of_decide_eq_true q | replace q := of_decide_eq_false q | skip) <;> (first | replace q := Classical.not_not.1 q | skip) <;> (try dsimp only at q) <;> ((conv => whnf); repeat ((first | (refine And.intro ?_ ?_; (focus ((repeat' (first | exact trivial | refine And.intro rfl ?_)); done))) | (refine And.intro ?_ ?_; (focus (first | omega | (dsimp -iota only; omega) | (simp -iota; omega) | (simp -iota; done) | decide)))); conv => whnf))))
  all_goals first
    | (have e1 : s.f6 e = true := decide_eq_true (by refine ⟨by omega, by omega, by assumption⟩)
       have e2 : s.d6 e = ⟨e.seq, s.sn, e.seals, s.op⟩ := by unfold SD.d6; rw [e1]; rfl
       rw [e1, e2]
       (conv => whnf); repeat ((first | (refine And.intro ?_ ?_; (focus ((repeat' (first | exact trivial | refine And.intro rfl ?_)); done))) | (refine And.intro ?_ ?_; (focus (first | omega | (dsimp -iota only; omega) | (simp -iota; omega) | (simp -iota; done) | decide)))); conv => whnf)
       refine ⟨_, _, Ent.shutAt (r2 := AV.bool true) [some 0, some 1, some 4] (SD.H ⟨e.seq, s.sn, e.seals, s.op⟩) rfl (by kernel_rfl) (AVE.of_eq ?_) ?_ (by kernel_rfl) (by kernel_rfl) (by repeat' first | exact trivial | refine ⟨rfl, ?_⟩) rfl, (), ?_, ?_⟩
       all_goals first | rfl | exact congrArg AV.bool q | (repeat' first | exact trivial | refine ⟨⟨_, rfl, ChE.refl _⟩, ?_⟩))
    | (have e1 : s.f6 e = false := decide_eq_false (by rintro ⟨g1, g2, g3⟩; first | omega | contradiction | simp_all)
       have e2 : s.d6 e = s := by unfold SD.d6; rw [e1]; rfl
       rw [e1, e2]
       (conv => whnf); repeat ((first | (refine And.intro ?_ ?_; (focus ((repeat' (first | exact trivial | refine And.intro rfl ?_)); done))) | (refine And.intro ?_ ?_; (focus (first | omega | (dsimp -iota only; omega) | (simp -iota; omega) | (simp -iota; done) | decide)))); conv => whnf)
       refine ⟨_, _, Ent.shutAt (r2 := AV.bool false) [some 0, some 1, some 2] (s.H) rfl (by kernel_rfl) (AVE.of_eq ?_) ?_ (by kernel_rfl) (by kernel_rfl) (by repeat' first | exact trivial | refine ⟨rfl, ?_⟩) rfl, (), ?_, ?_⟩
       all_goals first | rfl | exact congrArg AV.bool (decide_eq_false (by omega)) | exact congrArg AV.bool (by simpa using q) | (repeat' first | exact trivial | refine ⟨⟨_, rfl, ChE.refl _⟩, ?_⟩))
end
end Go.Proofs.YtmlhaellfpbcgaaDoor.Ax

namespace Go.Proofs.YtmlhaellfpbcgaaDoor.Ax
open Go.RowKit
set_option maxRecDepth 100000
@[reducible] def doesM : List (MK × IV) := [(.i .i64 1, .v (.func (.func 94) ⟨[]⟩ ⟨[]⟩)), (.i .i64 2, .v (.func (.func 95) ⟨[]⟩ ⟨[]⟩)), (.i .i64 3, .v (.func (.func 97) ⟨[]⟩ ⟨[]⟩)), (.i .i64 4, .v (.func (.func 99) ⟨[]⟩ ⟨[]⟩)), (.i .i64 5, .v (.func (.func 100) ⟨[]⟩ ⟨[]⟩)), (.i .i64 6, .v (.func (.func 101) ⟨[]⟩ ⟨[]⟩))]
/-- The table of what edits do, as start-up lays it. -/
structure Tb where
  es : Array MapEntry
  clock : Nat
@[reducible] def Tb.C (t : Tb) : Chunk := .gmap 0 (some .i64) doesM t.es t.clock
section
variable (t : Tb) (s : SD) (e : Edt)
def SD.fo : Bool := if e.kind = 1 then s.f1 e else if e.kind = 2 then s.f2 e else if e.kind = 3 then s.f3 e else if e.kind = 4 then s.f4 e else if e.kind = 5 then s.f5 e else s.f6 e
def SD.dd : SD := if e.kind = 1 then s.d1 e else if e.kind = 2 then s.d2 e else if e.kind = 3 then s.d3 e else if e.kind = 4 then s.d4 e else if e.kind = 5 then s.d5 e else s.d6 e
def SD.appE : Int := bif e.may then (bif s.fo e then 0 else 5) else 1
def SD.app : SD := bif e.may then s.dd e else s
structure SD.In (s : SD) : Prop where
  sn : s.sn.Ok
  len : s.sealed.length ≤ 1000
structure Edt.In (e : Edt) : Prop where
  seq : e.seq ≤ 18446744073709551615
  id : e.id ≤ 4294967295
  b : ∀ x ∈ e.seals, x.B
theorem may_hp (h : e.may = true) : e.HP := by
  unfold Edt.may at h
  rw [Bool.and_eq_true] at h
  exact of_decide_eq_true h.1
theorem apply_ok (hs : s.In) (he : e.In) : AFn Go.Proofs.Tryd.prog 10 [.ptr 0 0, editA e] ⟨2, [(0, .sem (Nest s.H)), (1, t.C)]⟩ (fun _ : Unit => AV.int .i64 (s.appE e)) (fun _ => ⟨2, [(0, .sem (Nest (s.app e).H)), (1, t.C)]⟩) := by
  refine ACall.fin ?_
  refine ACall.walk (C := cfg 21 2) (cfgOk _ _) [] (fn := Go.Proofs.Tryd.f10) (by kernel_rfl) (by kernel_rfl) rfl (by kernel_rfl) (by kernel_rfl) rfl rfl ?_
  (conv => whnf); repeat ((first | (refine And.intro ?_ ?_; (focus ((repeat' (first | exact trivial | refine And.intro rfl ?_)); done))) | (refine And.intro ?_ ?_; (focus (first | omega | (dsimp -iota only; omega) | (simp -iota; omega) | (simp -iota; done) | decide)))); conv => whnf)
  refine AFn.use [0] (mnone_ok s) (by kernel_rfl) rfl (by repeat' first | exact trivial | refine ⟨rfl, ?_⟩) fun _ => ?_
  (conv => whnf); repeat ((first | (refine And.intro ?_ ?_; (focus ((repeat' (first | exact trivial | refine And.intro rfl ?_)); done))) | (refine And.intro ?_ ?_; (focus (first | omega | (dsimp -iota only; omega) | (simp -iota; omega) | (simp -iota; done) | decide)))); conv => whnf)
  refine AFn.use [] (may_ok e he.b) (by kernel_rfl) rfl (by repeat' first | exact trivial | refine ⟨rfl, ?_⟩) fun _ => ?_
  (conv => whnf); repeat ((first | (refine And.intro ?_ ?_; (focus ((repeat' (first | exact trivial | refine And.intro rfl ?_)); done))) | (refine And.intro ?_ ?_; (focus (first | omega | (dsimp -iota only; omega) | (simp -iota; omega) | (simp -iota; done) | decide)))); conv => whnf)
  cases hm : e.may with
  | false =>
    have e1 : s.appE e = 1 := by unfold SD.appE; rw [hm]; rfl
    have e2 : s.app e = s := by unfold SD.app; rw [hm]; rfl
    rw [e1, e2]
    (conv => whnf); repeat ((first | (refine And.intro ?_ ?_; (focus ((repeat' (first | exact trivial | refine And.intro rfl ?_)); done))) | (refine And.intro ?_ ?_; (focus (first | omega | (dsimp -iota only; omega) | (simp -iota; omega) | (simp -iota; done) | decide)))); conv => whnf)
    refine ⟨_, _, Ent.mk' (e' := [(0, AV.int .i64 1)]) (H' := ⟨2, [(0, .sem (Nest s.H)), (1, t.C)]⟩) [some 0, some 1] (by kernel_rfl) ?_ ?_, (), rfl, rfl⟩
    · exact ⟨AVE.refl _, trivial⟩
    · (repeat' first | exact trivial | refine ⟨⟨_, rfl, ChE.refl _⟩, ?_⟩)
  | true =>
    have hp := may_hp e hm
    have e1 : s.appE e = bif s.fo e then 0 else 5 := by unfold SD.appE; rw [hm]; rfl
    have e2 : s.app e = s.dd e := by unfold SD.app; rw [hm]; rfl
    rw [e1, e2]
    have hk : e.kind = 1 ∨ e.kind = 2 ∨ e.kind = 3 ∨ e.kind = 4 ∨ e.kind = 5 ∨ e.kind = 6 := by omega
    (conv => whnf); repeat ((first | (refine And.intro ?_ ?_; (focus ((repeat' (first | exact trivial | refine And.intro rfl ?_)); done))) | (refine And.intro ?_ ?_; (focus (first | omega | (dsimp -iota only; omega) | (simp -iota; omega) | (simp -iota; done) | decide)))); conv => whnf)
    rcases hk with hk | hk | hk | hk | hk | hk
    · have hf : mfind doesM (.i .i64 e.kind) = some (.v (.func (.func 94) ⟨[]⟩ ⟨[]⟩)) := by rw [hk]; rfl
      have e3 : s.fo e = s.f1 e := by unfold SD.fo; simp [hk]
      have e4 : s.dd e = s.d1 e := by unfold SD.dd; simp [hk]
      rw [hf, e3, e4]
      refine ⟨fun x hx => ?_, fun hx => by cases hx⟩
      cases hx
      (conv => whnf); repeat ((first | (refine And.intro ?_ ?_; (focus ((repeat' (first | exact trivial | refine And.intro rfl ?_)); done))) | (refine And.intro ?_ ?_; (focus (first | omega | (dsimp -iota only; omega) | (simp -iota; omega) | (simp -iota; done) | decide)))); conv => whnf)
      refine AFn.use [0] (d1_ok s e hs.len) (by kernel_rfl) rfl (by repeat' first | exact trivial | refine ⟨rfl, ?_⟩) fun _ => ?_
      (conv => whnf); repeat ((first | (refine And.intro ?_ ?_; (focus ((repeat' (first | exact trivial | refine And.intro rfl ?_)); done))) | (refine And.intro ?_ ?_; (focus (first | omega | (dsimp -iota only; omega) | (simp -iota; omega) | (simp -iota; done) | decide)))); conv => whnf)
      cases hq : s.f1 e <;> ((conv => whnf); repeat ((first | (refine And.intro ?_ ?_; (focus ((repeat' (first | exact trivial | refine And.intro rfl ?_)); done))) | (refine And.intro ?_ ?_; (focus (first | omega | (dsimp -iota only; omega) | (simp -iota; omega) | (simp -iota; done) | decide)))); conv => whnf))
      · refine ⟨_, _, Ent.mk' (e' := [(0, AV.int .i64 5)]) (H' := ⟨2, [(0, .sem (Nest (s.d1 e).H)), (1, t.C)]⟩) [some 0, some 1] (by kernel_rfl) ?_ ?_, (), rfl, rfl⟩
        · exact ⟨AVE.refl _, trivial⟩
        · (repeat' first | exact trivial | refine ⟨⟨_, rfl, ChE.refl _⟩, ?_⟩)
      · refine ⟨_, _, Ent.mk' (e' := [(0, AV.int .i64 0)]) (H' := ⟨2, [(0, .sem (Nest (s.d1 e).H)), (1, t.C)]⟩) [some 0, some 1] (by kernel_rfl) ?_ ?_, (), rfl, rfl⟩
        · exact ⟨AVE.refl _, trivial⟩
        · (repeat' first | exact trivial | refine ⟨⟨_, rfl, ChE.refl _⟩, ?_⟩)
    · have hf : mfind doesM (.i .i64 e.kind) = some (.v (.func (.func 95) ⟨[]⟩ ⟨[]⟩)) := by rw [hk]; rfl
      have e3 : s.fo e = s.f2 e := by unfold SD.fo; simp [hk]
      have e4 : s.dd e = s.d2 e := by unfold SD.dd; simp [hk]
      rw [hf, e3, e4]
      refine ⟨fun x hx => ?_, fun hx => by cases hx⟩
      cases hx
      (conv => whnf); repeat ((first | (refine And.intro ?_ ?_; (focus ((repeat' (first | exact trivial | refine And.intro rfl ?_)); done))) | (refine And.intro ?_ ?_; (focus (first | omega | (dsimp -iota only; omega) | (simp -iota; omega) | (simp -iota; done) | decide)))); conv => whnf)
      refine AFn.use [0] (d2_ok s e hs.sn he.seq) (by kernel_rfl) rfl (by repeat' first | exact trivial | refine ⟨rfl, ?_⟩) fun _ => ?_
      (conv => whnf); repeat ((first | (refine And.intro ?_ ?_; (focus ((repeat' (first | exact trivial | refine And.intro rfl ?_)); done))) | (refine And.intro ?_ ?_; (focus (first | omega | (dsimp -iota only; omega) | (simp -iota; omega) | (simp -iota; done) | decide)))); conv => whnf)
      cases hq : s.f2 e <;> ((conv => whnf); repeat ((first | (refine And.intro ?_ ?_; (focus ((repeat' (first | exact trivial | refine And.intro rfl ?_)); done))) | (refine And.intro ?_ ?_; (focus (first | omega | (dsimp -iota only; omega) | (simp -iota; omega) | (simp -iota; done) | decide)))); conv => whnf))
      · refine ⟨_, _, Ent.mk' (e' := [(0, AV.int .i64 5)]) (H' := ⟨2, [(0, .sem (Nest (s.d2 e).H)), (1, t.C)]⟩) [some 0, some 1] (by kernel_rfl) ?_ ?_, (), rfl, rfl⟩
        · exact ⟨AVE.refl _, trivial⟩
        · (repeat' first | exact trivial | refine ⟨⟨_, rfl, ChE.refl _⟩, ?_⟩)
      · refine ⟨_, _, Ent.mk' (e' := [(0, AV.int .i64 0)]) (H' := ⟨2, [(0, .sem (Nest (s.d2 e).H)), (1, t.C)]⟩) [some 0, some 1] (by kernel_rfl) ?_ ?_, (), rfl, rfl⟩
        · exact ⟨AVE.refl _, trivial⟩
        · (repeat' first | exact trivial | refine ⟨⟨_, rfl, ChE.refl _⟩, ?_⟩)
    · have hf : mfind doesM (.i .i64 e.kind) = some (.v (.func (.func 97) ⟨[]⟩ ⟨[]⟩)) := by rw [hk]; rfl
      have e3 : s.fo e = s.f3 e := by unfold SD.fo; simp [hk]
      have e4 : s.dd e = s.d3 e := by unfold SD.dd; simp [hk]
      rw [hf, e3, e4]
      refine ⟨fun x hx => ?_, fun hx => by cases hx⟩
      cases hx
      (conv => whnf); repeat ((first | (refine And.intro ?_ ?_; (focus ((repeat' (first | exact trivial | refine And.intro rfl ?_)); done))) | (refine And.intro ?_ ?_; (focus (first | omega | (dsimp -iota only; omega) | (simp -iota; omega) | (simp -iota; done) | decide)))); conv => whnf)
      refine AFn.use [0] (d3_ok s e) (by kernel_rfl) rfl (by repeat' first | exact trivial | refine ⟨rfl, ?_⟩) fun _ => ?_
      (conv => whnf); repeat ((first | (refine And.intro ?_ ?_; (focus ((repeat' (first | exact trivial | refine And.intro rfl ?_)); done))) | (refine And.intro ?_ ?_; (focus (first | omega | (dsimp -iota only; omega) | (simp -iota; omega) | (simp -iota; done) | decide)))); conv => whnf)
      cases hq : s.f3 e <;> ((conv => whnf); repeat ((first | (refine And.intro ?_ ?_; (focus ((repeat' (first | exact trivial | refine And.intro rfl ?_)); done))) | (refine And.intro ?_ ?_; (focus (first | omega | (dsimp -iota only; omega) | (simp -iota; omega) | (simp -iota; done) | decide)))); conv => whnf))
      · refine ⟨_, _, Ent.mk' (e' := [(0, AV.int .i64 5)]) (H' := ⟨2, [(0, .sem (Nest (s.d3 e).H)), (1, t.C)]⟩) [some 0, some 1] (by kernel_rfl) ?_ ?_, (), rfl, rfl⟩
        · exact ⟨AVE.refl _, trivial⟩
        · (repeat' first | exact trivial | refine ⟨⟨_, rfl, ChE.refl _⟩, ?_⟩)
      · refine ⟨_, _, Ent.mk' (e' := [(0, AV.int .i64 0)]) (H' := ⟨2, [(0, .sem (Nest (s.d3 e).H)), (1, t.C)]⟩) [some 0, some 1] (by kernel_rfl) ?_ ?_, (), rfl, rfl⟩
        · exact ⟨AVE.refl _, trivial⟩
        · (repeat' first | exact trivial | refine ⟨⟨_, rfl, ChE.refl _⟩, ?_⟩)
    · have hf : mfind doesM (.i .i64 e.kind) = some (.v (.func (.func 99) ⟨[]⟩ ⟨[]⟩)) := by rw [hk]; rfl
      have e3 : s.fo e = s.f4 e := by unfold SD.fo; simp [hk]
      have e4 : s.dd e = s.d4 e := by unfold SD.dd; simp [hk]
      rw [hf, e3, e4]
      refine ⟨fun x hx => ?_, fun hx => by cases hx⟩
      cases hx
      (conv => whnf); repeat ((first | (refine And.intro ?_ ?_; (focus ((repeat' (first | exact trivial | refine And.intro rfl ?_)); done))) | (refine And.intro ?_ ?_; (focus (first | omega | (dsimp -iota only; omega) | (simp -iota; omega) | (simp -iota; done) | decide)))); conv => whnf)
      refine AFn.use [0] (d4_ok s e hs.len) (by kernel_rfl) rfl (by repeat' first | exact trivial | refine ⟨rfl, ?_⟩) fun _ => ?_
      (conv => whnf); repeat ((first | (refine And.intro ?_ ?_; (focus ((repeat' (first | exact trivial | refine And.intro rfl ?_)); done))) | (refine And.intro ?_ ?_; (focus (first | omega | (dsimp -iota only; omega) | (simp -iota; omega) | (simp -iota; done) | decide)))); conv => whnf)
      cases hq : s.f4 e <;> ((conv => whnf); repeat ((first | (refine And.intro ?_ ?_; (focus ((repeat' (first | exact trivial | refine And.intro rfl ?_)); done))) | (refine And.intro ?_ ?_; (focus (first | omega | (dsimp -iota only; omega) | (simp -iota; omega) | (simp -iota; done) | decide)))); conv => whnf))
      · refine ⟨_, _, Ent.mk' (e' := [(0, AV.int .i64 5)]) (H' := ⟨2, [(0, .sem (Nest (s.d4 e).H)), (1, t.C)]⟩) [some 0, some 1] (by kernel_rfl) ?_ ?_, (), rfl, rfl⟩
        · exact ⟨AVE.refl _, trivial⟩
        · (repeat' first | exact trivial | refine ⟨⟨_, rfl, ChE.refl _⟩, ?_⟩)
      · refine ⟨_, _, Ent.mk' (e' := [(0, AV.int .i64 0)]) (H' := ⟨2, [(0, .sem (Nest (s.d4 e).H)), (1, t.C)]⟩) [some 0, some 1] (by kernel_rfl) ?_ ?_, (), rfl, rfl⟩
        · exact ⟨AVE.refl _, trivial⟩
        · (repeat' first | exact trivial | refine ⟨⟨_, rfl, ChE.refl _⟩, ?_⟩)
    · have hf : mfind doesM (.i .i64 e.kind) = some (.v (.func (.func 100) ⟨[]⟩ ⟨[]⟩)) := by rw [hk]; rfl
      have e3 : s.fo e = s.f5 e := by unfold SD.fo; simp [hk]
      have e4 : s.dd e = s.d5 e := by unfold SD.dd; simp [hk]
      rw [hf, e3, e4]
      refine ⟨fun x hx => ?_, fun hx => by cases hx⟩
      cases hx
      (conv => whnf); repeat ((first | (refine And.intro ?_ ?_; (focus ((repeat' (first | exact trivial | refine And.intro rfl ?_)); done))) | (refine And.intro ?_ ?_; (focus (first | omega | (dsimp -iota only; omega) | (simp -iota; omega) | (simp -iota; done) | decide)))); conv => whnf)
      refine AFn.use [0] (d5_ok s e hs.len (by omega)) (by kernel_rfl) rfl (by repeat' first | exact trivial | refine ⟨rfl, ?_⟩) fun _ => ?_
      (conv => whnf); repeat ((first | (refine And.intro ?_ ?_; (focus ((repeat' (first | exact trivial | refine And.intro rfl ?_)); done))) | (refine And.intro ?_ ?_; (focus (first | omega | (dsimp -iota only; omega) | (simp -iota; omega) | (simp -iota; done) | decide)))); conv => whnf)
      cases hq : s.f5 e <;> ((conv => whnf); repeat ((first | (refine And.intro ?_ ?_; (focus ((repeat' (first | exact trivial | refine And.intro rfl ?_)); done))) | (refine And.intro ?_ ?_; (focus (first | omega | (dsimp -iota only; omega) | (simp -iota; omega) | (simp -iota; done) | decide)))); conv => whnf))
      · refine ⟨_, _, Ent.mk' (e' := [(0, AV.int .i64 5)]) (H' := ⟨2, [(0, .sem (Nest (s.d5 e).H)), (1, t.C)]⟩) [some 0, some 1] (by kernel_rfl) ?_ ?_, (), rfl, rfl⟩
        · exact ⟨AVE.refl _, trivial⟩
        · (repeat' first | exact trivial | refine ⟨⟨_, rfl, ChE.refl _⟩, ?_⟩)
      · refine ⟨_, _, Ent.mk' (e' := [(0, AV.int .i64 0)]) (H' := ⟨2, [(0, .sem (Nest (s.d5 e).H)), (1, t.C)]⟩) [some 0, some 1] (by kernel_rfl) ?_ ?_, (), rfl, rfl⟩
        · exact ⟨AVE.refl _, trivial⟩
        · (repeat' first | exact trivial | refine ⟨⟨_, rfl, ChE.refl _⟩, ?_⟩)
    · have hf : mfind doesM (.i .i64 e.kind) = some (.v (.func (.func 101) ⟨[]⟩ ⟨[]⟩)) := by rw [hk]; rfl
      have e3 : s.fo e = s.f6 e := by unfold SD.fo; simp [hk]
      have e4 : s.dd e = s.d6 e := by unfold SD.dd; simp [hk]
      rw [hf, e3, e4]
      refine ⟨fun x hx => ?_, fun hx => by cases hx⟩
      cases hx
      (conv => whnf); repeat ((first | (refine And.intro ?_ ?_; (focus ((repeat' (first | exact trivial | refine And.intro rfl ?_)); done))) | (refine And.intro ?_ ?_; (focus (first | omega | (dsimp -iota only; omega) | (simp -iota; omega) | (simp -iota; done) | decide)))); conv => whnf)
      refine AFn.use [0] (d6_ok s e hs.len (by omega)) (by kernel_rfl) rfl (by repeat' first | exact trivial | refine ⟨rfl, ?_⟩) fun _ => ?_
      (conv => whnf); repeat ((first | (refine And.intro ?_ ?_; (focus ((repeat' (first | exact trivial | refine And.intro rfl ?_)); done))) | (refine And.intro ?_ ?_; (focus (first | omega | (dsimp -iota only; omega) | (simp -iota; omega) | (simp -iota; done) | decide)))); conv => whnf)
      cases hq : s.f6 e <;> ((conv => whnf); repeat ((first | (refine And.intro ?_ ?_; (focus ((repeat' (first | exact trivial | refine And.intro rfl ?_)); done))) | (refine And.intro ?_ ?_; (focus (first | omega | (dsimp -iota only; omega) | (simp -iota; omega) | (simp -iota; done) | decide)))); conv => whnf))
      · refine ⟨_, _, Ent.mk' (e' := [(0, AV.int .i64 5)]) (H' := ⟨2, [(0, .sem (Nest (s.d6 e).H)), (1, t.C)]⟩) [some 0, some 1] (by kernel_rfl) ?_ ?_, (), rfl, rfl⟩
        · exact ⟨AVE.refl _, trivial⟩
        · (repeat' first | exact trivial | refine ⟨⟨_, rfl, ChE.refl _⟩, ?_⟩)
      · refine ⟨_, _, Ent.mk' (e' := [(0, AV.int .i64 0)]) (H' := ⟨2, [(0, .sem (Nest (s.d6 e).H)), (1, t.C)]⟩) [some 0, some 1] (by kernel_rfl) ?_ ?_, (), rfl, rfl⟩
        · exact ⟨AVE.refl _, trivial⟩
        · (repeat' first | exact trivial | refine ⟨⟨_, rfl, ChE.refl _⟩, ?_⟩)
end
end Go.Proofs.YtmlhaellfpbcgaaDoor.Ax

namespace Go.Proofs.YtmlhaellfpbcgaaDoor.Ax
open Go.RowKit
set_option maxRecDepth 100000
theorem IVE.zs : IVE (.v (.string ⟨⟨[]⟩⟩)) (.str []) := ⟨fun ι v h => by
  simp only [IV.R] at h ⊢
  exact h⟩
theorem AVE.slE {sz n n' : Nat} {f f' : Nat → List IV} (hn : n = n') (hf : ∀ i, i < n → IVEs (f i) (f' i)) : AVE (.iv (.sl sz n f)) (.iv (.sl sz n' f')) := by
  subst hn
  exact AVE.sl hf
def edF (l : List Edt) (i : Nat) : List IV := editI (l.getD i default)
theorem edF_app {A : List Edt} {p : Edt} {n : Nat} {f g : Nat → List IV} (hn : n = A.length) (hf : ∀ i, i < n → IVEs (f i) (edF A i)) (hg : IVEs (g 0) (editI p)) : ∀ i, i < n + 1 → IVEs (if i < n then f i else g (i - n)) (edF (A ++ [p]) i) := fun i hi => by
  by_cases h : i < n
  · simp only [if_pos h]
    have e : edF (A ++ [p]) i = edF A i := by
      unfold edF
      simp [List.getD, List.getElem?_append_left, show i < A.length by omega]
    rw [e]
    exact hf i h
  · have : i = n := by omega
    subst this
    simp only [if_neg h, Nat.sub_self]
    have e : edF (A ++ [p]) i = editI p := by
      unfold edF
      simp [List.getD, hn]
    rw [e]
    exact hg
section
variable (s : SD)
def snE (p : NQ) : Edt := ⟨2, p.1, p.2, 0, []⟩
def SD.ed1 : List Edt := s.sn.list.map snE
def SD.ed2 : List Edt := if s.sealed.length > 0 then [⟨6, [], s.last, 0, s.sealed⟩] else if s.last > 0 then [⟨1, [], s.last, 0, []⟩] else []
def SD.ed3 : List Edt := if s.op > 0 then [⟨4, [], 0, s.op, []⟩] else []
def SD.edits : List Edt := s.ed1 ++ s.ed2 ++ s.ed3
theorem snE_R (p : NQ) : IVEs [.v (.int .i64 2), .str p.1, .v (.int .u64 p.2), .v (.int .u32 0), .v (.slice none 0 0)] (editI (snE p)) := ⟨IVE.refl _, IVE.refl _, IVE.refl _, IVE.refl _, IVE.nilSl _ _, rfl⟩
theorem ed1_take {i : Nat} (h : i < s.sn.list.length) : s.ed1.take (i + 1) = s.ed1.take i ++ [snE (s.sn.list.getD i ([], 0))] := by
  unfold SD.ed1
  rw [List.take_add_one, List.getElem?_map, List.getElem?_eq_getElem h]
  simp [List.getD, h]
theorem edits_in (hs : s.In) : AFn Go.Proofs.Tryd.prog 9 [.ptr 0 0] s.H (fun _ : Unit => .iv (.sl 5 s.edits.length (edF s.edits))) (fun _ => s.H) := by
  have hll := list_len16 hs.sn
  have hl1 : s.ed1.length = s.sn.list.length := List.length_map _
  refine ACall.fin ?_
  refine ACall.walk (C := cfg 60 3) (cfgOk _ _) [] (fn := Go.Proofs.Tryd.f9) (by kernel_rfl) (by kernel_rfl) rfl (by kernel_rfl) (by kernel_rfl) rfl rfl ?_
  (conv => whnf); repeat ((first | (refine And.intro ?_ ?_; (focus ((repeat' (first | exact trivial | refine And.intro rfl ?_)); done))) | (refine And.intro ?_ ?_; (focus (first | omega | (dsimp -iota only; omega) | (simp -iota; omega) | (simp -iota; done) | decide)))); conv => whnf)
  refine AFn.use [0, 1, 2] (snaps_in s hs.sn) (by kernel_rfl) rfl (by repeat' first | exact trivial | refine ⟨rfl, ?_⟩) fun _ => ?_
  (conv => whnf); repeat ((first | (refine And.intro ?_ ?_; (focus ((repeat' (first | exact trivial | refine And.intro rfl ?_)); done))) | (refine And.intro ?_ ?_; (focus (first | omega | (dsimp -iota only; omega) | (simp -iota; omega) | (simp -iota; done) | decide)))); conv => whnf)
  refine AWP.loop (X := { x : Nat // x ≤ s.sn.list.length }) (fun x => [(0, .ptr 0 0), (3, .row 3 5 0 x.1), (11, .iv (.sl 2 s.sn.list.length (nqF s.sn.list))), (12, AV.int .i64 s.sn.list.length), (13, AV.int .i64 x.1)]) (fun x => ⟨4, [(0, .cells 69 [AV.int .u64 s.base, .ptr 1 0, .row 2 5 0 s.sealed.length, AV.int .u32 s.op]), (1, .sem (Nest s.sn.H)), (2, .rowc 49 5 s.sealed.length (slF s.sealed)), (3, .rowc 31 5 x.1 (edF (s.ed1.take x.1)))]⟩) (fun x => s.sn.list.length - x.1) (⟨0, Nat.zero_le _⟩) ?_ fun x => AWP.go (S := []) (cfgOk _ _) (.of_eq (by kernel_rfl)) ?_
  · refine Ent.mk' [some 0, some 1, some 2, none] (by kernel_rfl) ?_ ?_
    · exact ⟨AVE.refl _, AVE.nil _ _, AVE.refl _, AVE.refl _, AVE.refl _, trivial⟩
    · exact ⟨⟨_, rfl, ChE.refl _⟩, ⟨_, rfl, ChE.refl _⟩, ⟨_, rfl, ChE.refl _⟩, trivial, trivial⟩
  · obtain ⟨i, hi⟩ := x
    have hix : ((i : Nat) : Int).toNat = i := by simp
    (conv => whnf); repeat ((first | (refine And.intro ?_ ?_; (focus ((repeat' (first | exact trivial | refine And.intro rfl ?_)); done))) | (refine And.intro ?_ ?_; (focus (first | omega | (dsimp -iota only; omega) | (simp -iota; omega) | (simp -iota; done) | decide)))); conv => whnf)
    refine branchB_of (fun g => ?_) (fun g => ?_) <;> (first | replace g := not_t g | replace g := not_f g | skip) <;> (first | replace g := of_decide_eq_true g | replace g := of_decide_eq_false g | skip) <;> (first | replace g := Classical.not_not.1 g | skip) <;> (try dsimp only at g)
    · have hi' : i < s.sn.list.length := by omega
      have hk := ed1_take s hi'
      (conv => whnf); repeat ((first | (refine And.intro ?_ ?_; (focus ((repeat' (first | exact trivial | refine And.intro rfl ?_)); done))) | (refine And.intro ?_ ?_; (focus (first | omega | (dsimp -iota only; omega) | (simp -iota; omega) | (simp -iota; done) | decide)))); conv => whnf)
      rw [hix]
      refine ⟨⟨i + 1, by omega⟩, Ent.mk' [some 0, some 1, some 2, some 6] (by kernel_rfl) (by repeat' first | exact trivial | refine And.intro (AVE.refl _) ?_ | refine And.intro (AVE.int (by first | rfl | omega | (dsimp only; omega) | (simp -iota; omega) | (simp -iota; done))) ?_ | refine And.intro (AVE.bool (by assumption)) ?_ | refine And.intro (AVE.len (by first | rfl | omega | (dsimp only; omega) | (simp -iota; omega) | (simp -iota; done))) ?_) ?_, ?_⟩
      · exact ⟨⟨_, rfl, ChE.refl _⟩, ⟨_, rfl, ChE.refl _⟩, ⟨_, rfl, ChE.refl _⟩, ⟨_, rfl, ChE.rowE (Nat.le_refl _) (by rw [hk]; exact edF_app (by rw [List.length_take]; omega) (fun j _ => IVEs.refl _) (snE_R _))⟩, trivial⟩
      · show s.sn.list.length - (i + 1) < s.sn.list.length - i
        omega
    · have hin : i = s.sn.list.length := by omega
      have hbase : ∀ j, j < i → IVEs (edF (s.ed1.take i) j) (edF s.ed1 j) := fun j _ => by rw [List.take_of_length_le (by omega)]; exact IVEs.refl _
      (conv => whnf); repeat ((first | (refine And.intro ?_ ?_; (focus ((repeat' (first | exact trivial | refine And.intro rfl ?_)); done))) | (refine And.intro ?_ ?_; (focus (first | omega | (dsimp -iota only; omega) | (simp -iota; omega) | (simp -iota; done) | decide)))); conv => whnf)
      refine AFn.use [0, 1, 2] (last_in s hs.len) (by kernel_rfl) rfl (by repeat' first | exact trivial | refine ⟨rfl, ?_⟩) fun _ => ?_
      (conv => whnf); repeat ((first | (refine And.intro ?_ ?_; (focus ((repeat' (first | exact trivial | refine And.intro rfl ?_)); done))) | (refine And.intro ?_ ?_; (focus (first | omega | (dsimp -iota only; omega) | (simp -iota; omega) | (simp -iota; done) | decide)))); conv => whnf)
      refine AFn.use [0, 1, 2] (sealed_in s hs.len) (by kernel_rfl) rfl (by repeat' first | exact trivial | refine ⟨rfl, ?_⟩) fun _ => ?_
      (conv => whnf); repeat ((first | (refine And.intro ?_ ?_; (focus ((repeat' (first | exact trivial | refine And.intro rfl ?_)); done))) | (refine And.intro ?_ ?_; (focus (first | omega | (dsimp -iota only; omega) | (simp -iota; omega) | (simp -iota; done) | decide)))); conv => whnf)
      refine branchB_of (fun g1 => ?_) (fun g1 => ?_) <;> (first | replace g1 := not_t g1 | replace g1 := not_f g1 | skip) <;> (first | replace g1 := of_decide_eq_true g1 | replace g1 := of_decide_eq_false g1 | skip) <;> (first | replace g1 := Classical.not_not.1 g1 | skip) <;> (try dsimp only at g1)
      · have g1' : s.sealed.length > 0 := by omega
        (conv => whnf); repeat ((first | (refine And.intro ?_ ?_; (focus ((repeat' (first | exact trivial | refine And.intro rfl ?_)); done))) | (refine And.intro ?_ ?_; (focus (first | omega | (dsimp -iota only; omega) | (simp -iota; omega) | (simp -iota; done) | decide)))); conv => whnf)
        refine AFn.use [0, 1, 2] (open_in s) (by kernel_rfl) rfl (by repeat' first | exact trivial | refine ⟨rfl, ?_⟩) fun _ => ?_
        (conv => whnf); repeat ((first | (refine And.intro ?_ ?_; (focus ((repeat' (first | exact trivial | refine And.intro rfl ?_)); done))) | (refine And.intro ?_ ?_; (focus (first | omega | (dsimp -iota only; omega) | (simp -iota; omega) | (simp -iota; done) | decide)))); conv => whnf)
        refine branchB_of (fun g3 => ?_) (fun g3 => ?_) <;> (first | replace g3 := not_t g3 | replace g3 := not_f g3 | skip) <;> (first | replace g3 := of_decide_eq_true g3 | replace g3 := of_decide_eq_false g3 | skip) <;> (first | replace g3 := Classical.not_not.1 g3 | skip) <;> (try dsimp only at g3)
        · (conv => whnf); repeat ((first | (refine And.intro ?_ ?_; (focus ((repeat' (first | exact trivial | refine And.intro rfl ?_)); done))) | (refine And.intro ?_ ?_; (focus (first | omega | (dsimp -iota only; omega) | (simp -iota; omega) | (simp -iota; done) | decide)))); conv => whnf)
          have he : s.edits = s.ed1 ++ [Edt.mk 6 [] s.last 0 s.sealed] ++ [Edt.mk 4 [] 0 s.op []] := by simp [SD.edits, SD.ed2, SD.ed3, *]
          rw [he]
          refine ⟨_, _, (Ent.freeze 7 _ rfl rfl (e' := [(0, .iv (.sl 5 _ _))]) ⟨AVF.sl (Nat.le_refl _), trivial⟩).trans (Ent.mk' (e' := [(0, .iv (.sl 5 (s.ed1 ++ [Edt.mk 6 [] s.last 0 s.sealed] ++ [Edt.mk 4 [] 0 s.op []]).length (edF (s.ed1 ++ [Edt.mk 6 [] s.last 0 s.sealed] ++ [Edt.mk 4 [] 0 s.op []]))))]) (H' := s.H) [some 0, some 1, some 2] (by kernel_rfl) ?_ ?_), (), rfl, rfl⟩
          · refine ⟨AVE.slE (by simp; omega) ?_, trivial⟩
            refine edF_app (by simp; omega) (edF_app (by dsimp only; omega) (hbase) ?_) ?_
            all_goals first | exact ⟨IVE.refl _, IVE.zs, IVE.refl _, IVE.refl _, IVE.refl _, rfl⟩ | exact ⟨IVE.refl _, IVE.zs, IVE.refl _, IVE.refl _, IVE.nilSl _ _, rfl⟩
          · (repeat' first | exact trivial | refine ⟨⟨_, rfl, ChE.refl _⟩, ?_⟩)
        · have g3' : ¬ s.op > 0 := g3
          (conv => whnf); repeat ((first | (refine And.intro ?_ ?_; (focus ((repeat' (first | exact trivial | refine And.intro rfl ?_)); done))) | (refine And.intro ?_ ?_; (focus (first | omega | (dsimp -iota only; omega) | (simp -iota; omega) | (simp -iota; done) | decide)))); conv => whnf)
          have he : s.edits = s.ed1 ++ [Edt.mk 6 [] s.last 0 s.sealed] := by simp [SD.edits, SD.ed2, SD.ed3, *]
          rw [he]
          refine ⟨_, _, (Ent.freeze 5 _ rfl rfl (e' := [(0, .iv (.sl 5 _ _))]) ⟨AVF.sl (Nat.le_refl _), trivial⟩).trans (Ent.mk' (e' := [(0, .iv (.sl 5 (s.ed1 ++ [Edt.mk 6 [] s.last 0 s.sealed]).length (edF (s.ed1 ++ [Edt.mk 6 [] s.last 0 s.sealed]))))]) (H' := s.H) [some 0, some 1, some 2] (by kernel_rfl) ?_ ?_), (), rfl, rfl⟩
          · refine ⟨AVE.slE (by simp; omega) ?_, trivial⟩
            refine edF_app (by dsimp only; omega) (hbase) ?_
            all_goals first | exact ⟨IVE.refl _, IVE.zs, IVE.refl _, IVE.refl _, IVE.refl _, rfl⟩ | exact ⟨IVE.refl _, IVE.zs, IVE.refl _, IVE.refl _, IVE.nilSl _ _, rfl⟩
          · (repeat' first | exact trivial | refine ⟨⟨_, rfl, ChE.refl _⟩, ?_⟩)
      · have g1' : ¬ s.sealed.length > 0 := by omega
        (conv => whnf); repeat ((first | (refine And.intro ?_ ?_; (focus ((repeat' (first | exact trivial | refine And.intro rfl ?_)); done))) | (refine And.intro ?_ ?_; (focus (first | omega | (dsimp -iota only; omega) | (simp -iota; omega) | (simp -iota; done) | decide)))); conv => whnf)
        refine branchB_of (fun g2 => ?_) (fun g2 => ?_) <;> (first | replace g2 := not_t g2 | replace g2 := not_f g2 | skip) <;> (first | replace g2 := of_decide_eq_true g2 | replace g2 := of_decide_eq_false g2 | skip) <;> (first | replace g2 := Classical.not_not.1 g2 | skip) <;> (try dsimp only at g2)
        · have g2' : s.last > 0 := by omega
          (conv => whnf); repeat ((first | (refine And.intro ?_ ?_; (focus ((repeat' (first | exact trivial | refine And.intro rfl ?_)); done))) | (refine And.intro ?_ ?_; (focus (first | omega | (dsimp -iota only; omega) | (simp -iota; omega) | (simp -iota; done) | decide)))); conv => whnf)
          refine AFn.use [0, 1, 2] (open_in s) (by kernel_rfl) rfl (by repeat' first | exact trivial | refine ⟨rfl, ?_⟩) fun _ => ?_
          (conv => whnf); repeat ((first | (refine And.intro ?_ ?_; (focus ((repeat' (first | exact trivial | refine And.intro rfl ?_)); done))) | (refine And.intro ?_ ?_; (focus (first | omega | (dsimp -iota only; omega) | (simp -iota; omega) | (simp -iota; done) | decide)))); conv => whnf)
          refine branchB_of (fun g3 => ?_) (fun g3 => ?_) <;> (first | replace g3 := not_t g3 | replace g3 := not_f g3 | skip) <;> (first | replace g3 := of_decide_eq_true g3 | replace g3 := of_decide_eq_false g3 | skip) <;> (first | replace g3 := Classical.not_not.1 g3 | skip) <;> (try dsimp only at g3)
          · (conv => whnf); repeat ((first | (refine And.intro ?_ ?_; (focus ((repeat' (first | exact trivial | refine And.intro rfl ?_)); done))) | (refine And.intro ?_ ?_; (focus (first | omega | (dsimp -iota only; omega) | (simp -iota; omega) | (simp -iota; done) | decide)))); conv => whnf)
            have he : s.edits = s.ed1 ++ [Edt.mk 1 [] s.last 0 []] ++ [Edt.mk 4 [] 0 s.op []] := by simp [SD.edits, SD.ed2, SD.ed3, *]
            rw [he]
            refine ⟨_, _, (Ent.freeze 7 _ rfl rfl (e' := [(0, .iv (.sl 5 _ _))]) ⟨AVF.sl (Nat.le_refl _), trivial⟩).trans (Ent.mk' (e' := [(0, .iv (.sl 5 (s.ed1 ++ [Edt.mk 1 [] s.last 0 []] ++ [Edt.mk 4 [] 0 s.op []]).length (edF (s.ed1 ++ [Edt.mk 1 [] s.last 0 []] ++ [Edt.mk 4 [] 0 s.op []]))))]) (H' := s.H) [some 0, some 1, some 2] (by kernel_rfl) ?_ ?_), (), rfl, rfl⟩
            · refine ⟨AVE.slE (by simp; omega) ?_, trivial⟩
              refine edF_app (by simp; omega) (edF_app (by dsimp only; omega) (hbase) ?_) ?_
              all_goals first | exact ⟨IVE.refl _, IVE.zs, IVE.refl _, IVE.refl _, IVE.refl _, rfl⟩ | exact ⟨IVE.refl _, IVE.zs, IVE.refl _, IVE.refl _, IVE.nilSl _ _, rfl⟩
            · (repeat' first | exact trivial | refine ⟨⟨_, rfl, ChE.refl _⟩, ?_⟩)
          · have g3' : ¬ s.op > 0 := g3
            (conv => whnf); repeat ((first | (refine And.intro ?_ ?_; (focus ((repeat' (first | exact trivial | refine And.intro rfl ?_)); done))) | (refine And.intro ?_ ?_; (focus (first | omega | (dsimp -iota only; omega) | (simp -iota; omega) | (simp -iota; done) | decide)))); conv => whnf)
            have he : s.edits = s.ed1 ++ [Edt.mk 1 [] s.last 0 []] := by simp [SD.edits, SD.ed2, SD.ed3, *]
            rw [he]
            refine ⟨_, _, (Ent.freeze 5 _ rfl rfl (e' := [(0, .iv (.sl 5 _ _))]) ⟨AVF.sl (Nat.le_refl _), trivial⟩).trans (Ent.mk' (e' := [(0, .iv (.sl 5 (s.ed1 ++ [Edt.mk 1 [] s.last 0 []]).length (edF (s.ed1 ++ [Edt.mk 1 [] s.last 0 []]))))]) (H' := s.H) [some 0, some 1, some 2] (by kernel_rfl) ?_ ?_), (), rfl, rfl⟩
            · refine ⟨AVE.slE (by simp; omega) ?_, trivial⟩
              refine edF_app (by dsimp only; omega) (hbase) ?_
              all_goals first | exact ⟨IVE.refl _, IVE.zs, IVE.refl _, IVE.refl _, IVE.refl _, rfl⟩ | exact ⟨IVE.refl _, IVE.zs, IVE.refl _, IVE.refl _, IVE.nilSl _ _, rfl⟩
            · (repeat' first | exact trivial | refine ⟨⟨_, rfl, ChE.refl _⟩, ?_⟩)
        · have g2' : ¬ s.last > 0 := by omega
          (conv => whnf); repeat ((first | (refine And.intro ?_ ?_; (focus ((repeat' (first | exact trivial | refine And.intro rfl ?_)); done))) | (refine And.intro ?_ ?_; (focus (first | omega | (dsimp -iota only; omega) | (simp -iota; omega) | (simp -iota; done) | decide)))); conv => whnf)
          refine AFn.use [0, 1, 2] (open_in s) (by kernel_rfl) rfl (by repeat' first | exact trivial | refine ⟨rfl, ?_⟩) fun _ => ?_
          (conv => whnf); repeat ((first | (refine And.intro ?_ ?_; (focus ((repeat' (first | exact trivial | refine And.intro rfl ?_)); done))) | (refine And.intro ?_ ?_; (focus (first | omega | (dsimp -iota only; omega) | (simp -iota; omega) | (simp -iota; done) | decide)))); conv => whnf)
          refine branchB_of (fun g3 => ?_) (fun g3 => ?_) <;> (first | replace g3 := not_t g3 | replace g3 := not_f g3 | skip) <;> (first | replace g3 := of_decide_eq_true g3 | replace g3 := of_decide_eq_false g3 | skip) <;> (first | replace g3 := Classical.not_not.1 g3 | skip) <;> (try dsimp only at g3)
          · (conv => whnf); repeat ((first | (refine And.intro ?_ ?_; (focus ((repeat' (first | exact trivial | refine And.intro rfl ?_)); done))) | (refine And.intro ?_ ?_; (focus (first | omega | (dsimp -iota only; omega) | (simp -iota; omega) | (simp -iota; done) | decide)))); conv => whnf)
            have he : s.edits = s.ed1 ++ [Edt.mk 4 [] 0 s.op []] := by simp [SD.edits, SD.ed2, SD.ed3, *]
            rw [he]
            refine ⟨_, _, (Ent.freeze 5 _ rfl rfl (e' := [(0, .iv (.sl 5 _ _))]) ⟨AVF.sl (Nat.le_refl _), trivial⟩).trans (Ent.mk' (e' := [(0, .iv (.sl 5 (s.ed1 ++ [Edt.mk 4 [] 0 s.op []]).length (edF (s.ed1 ++ [Edt.mk 4 [] 0 s.op []]))))]) (H' := s.H) [some 0, some 1, some 2] (by kernel_rfl) ?_ ?_), (), rfl, rfl⟩
            · refine ⟨AVE.slE (by simp; omega) ?_, trivial⟩
              refine edF_app (by dsimp only; omega) (hbase) ?_
              all_goals first | exact ⟨IVE.refl _, IVE.zs, IVE.refl _, IVE.refl _, IVE.refl _, rfl⟩ | exact ⟨IVE.refl _, IVE.zs, IVE.refl _, IVE.refl _, IVE.nilSl _ _, rfl⟩
            · (repeat' first | exact trivial | refine ⟨⟨_, rfl, ChE.refl _⟩, ?_⟩)
          · have g3' : ¬ s.op > 0 := g3
            (conv => whnf); repeat ((first | (refine And.intro ?_ ?_; (focus ((repeat' (first | exact trivial | refine And.intro rfl ?_)); done))) | (refine And.intro ?_ ?_; (focus (first | omega | (dsimp -iota only; omega) | (simp -iota; omega) | (simp -iota; done) | decide)))); conv => whnf)
            have he : s.edits = s.ed1 := by simp [SD.edits, SD.ed2, SD.ed3, *]
            rw [he]
            refine ⟨_, _, (Ent.freeze 3 _ rfl rfl (e' := [(0, .iv (.sl 5 _ _))]) ⟨AVF.sl (Nat.le_refl _), trivial⟩).trans (Ent.mk' (e' := [(0, .iv (.sl 5 (s.ed1).length (edF (s.ed1))))]) (H' := s.H) [some 0, some 1, some 2] (by kernel_rfl) ?_ ?_), (), rfl, rfl⟩
            · refine ⟨AVE.slE (by simp; omega) ?_, trivial⟩
              refine hbase
            · (repeat' first | exact trivial | refine ⟨⟨_, rfl, ChE.refl _⟩, ?_⟩)
theorem edits_ok (hs : s.In) : AFn Go.Proofs.Tryd.prog 9 [.ptr 0 0] (one s.H) (fun _ : Unit => .iv (.sl 5 s.edits.length (edF s.edits))) (fun _ => one s.H) := AFn.shut (edits_in s hs) rfl rfl (fun _ => ⟨by kernel_rfl, by kernel_rfl⟩) (fun _ => (by repeat' first | exact trivial | refine ⟨rfl, ?_⟩)) (fun _ => rfl)
end
end Go.Proofs.YtmlhaellfpbcgaaDoor.Ax

namespace Go.Proofs.YtmlhaellfpbcgaaDoor.Ax
open Go.RowKit
set_option maxRecDepth 100000
theorem lastF_cons (b : Nat) (x : Seal) (l : List Seal) : lastF b (x :: l) = lastF (max b x.last) l := rfl
theorem topF_cons (b : Nat) (x : Seal) (l : List Seal) : topF b (x :: l) = topF (max b x.id) l := rfl
theorem lastF_ge (l : List Seal) : ∀ b, b ≤ lastF b l := by
  induction l with
  | nil => exact fun b => Nat.le_refl _
  | cons x l ih => intro b; rw [lastF_cons]; have := ih (max b x.last); omega
theorem lastF_mem {l : List Seal} : ∀ {b : Nat} {x : Seal}, x ∈ l → x.last ≤ lastF b l := by
  induction l with
  | nil => intro b x h; cases h
  | cons y l ih =>
    intro b x h
    rw [lastF_cons]
    rcases List.mem_cons.1 h with rfl | h
    · have := lastF_ge l (max b x.last); omega
    · exact ih h
theorem lastF_le {l : List Seal} {m : Nat} : ∀ {b : Nat}, b ≤ m → (∀ x ∈ l, x.last ≤ m) → lastF b l ≤ m := by
  induction l with
  | nil => exact fun h _ => h
  | cons x l ih =>
    intro b hb h
    rw [lastF_cons]
    exact ih (by have := h x (List.mem_cons_self ..); omega) fun y hy => h y (List.mem_cons_of_mem _ hy)
theorem lastF_mono {l : List Seal} : ∀ {a b : Nat}, a ≤ b → lastF a l ≤ lastF b l := by
  induction l with
  | nil => exact fun h => h
  | cons x l ih => intro a b h; rw [lastF_cons, lastF_cons]; exact ih (by omega)
theorem lastF_snoc (b : Nat) (l : List Seal) (x : Seal) : lastF b (l ++ [x]) = max (lastF b l) x.last := by
  unfold lastF
  rw [List.foldl_append]
  rfl
theorem topF_ge (l : List Seal) : ∀ b, b ≤ topF b l := by
  induction l with
  | nil => exact fun b => Nat.le_refl _
  | cons x l ih => intro b; rw [topF_cons]; have := ih (max b x.id); omega
theorem topF_mono {l : List Seal} : ∀ {a b : Nat}, a ≤ b → topF a l ≤ topF b l := by
  induction l with
  | nil => exact fun h => h
  | cons x l ih => intro a b h; rw [topF_cons, topF_cons]; exact ih (by omega)
theorem topF_max {l : List Seal} : ∀ {a : Nat}, topF a l = max a (topF 0 l) := by
  induction l with
  | nil => intro a; show a = max a 0; omega
  | cons x l ih => intro a; rw [topF_cons, topF_cons, ih, @ih (max 0 x.id)]; omega
theorem folF_cons {x : Seal} {l : List Seal} {a n m : Nat} : folF (x :: l) a n m = true ↔ (a < x.id ∧ x.last ≤ m ∧ (x.many > 0 → n < x.first)) ∧ folF l x.id (max n x.last) m = true := by
  have e1 : folF (x :: l) a n m = bif decide (x.id ≤ a ∨ x.last > m ∨ (x.many > 0 ∧ x.first ≤ n)) then false else folF l x.id (max n x.last) m := rfl
  rw [e1]
  cases h : decide (x.id ≤ a ∨ x.last > m ∨ (x.many > 0 ∧ x.first ≤ n)) with
  | true =>
    simp only [decide_eq_true_eq] at h
    simp only [cond_true, Bool.false_eq_true, false_iff]
    omega
  | false =>
    simp only [decide_eq_false_iff_not] at h
    simp only [cond_false]
    refine ⟨fun g => ⟨by omega, g⟩, fun g => g.2⟩
theorem folF_mono {l : List Seal} {m m' : Nat} (hm : m ≤ m') : ∀ {a n a' n' : Nat}, a' ≤ a → n' ≤ n → folF l a n m = true → folF l a' n' m' = true := by
  induction l with
  | nil => exact fun _ _ _ => rfl
  | cons x l ih =>
    intro a n a' n' ha hn h
    rw [folF_cons] at h ⊢
    exact ⟨by omega, ih (Nat.le_refl _) (by omega) h.2⟩
theorem folF_last {l : List Seal} {m : Nat} : ∀ {a n : Nat}, folF l a n m = true → ∀ x ∈ l, x.last ≤ m := by
  induction l with
  | nil => intro a n _ x hx; cases hx
  | cons y l ih =>
    intro a n h x hx
    rw [folF_cons] at h
    rcases List.mem_cons.1 hx with rfl | hx
    · exact h.1.2.1
    · exact ih h.2 x hx
theorem folF_snoc {l : List Seal} {x : Seal} {m : Nat} : ∀ {a n : Nat}, folF l a n m = true → topF a l < x.id → x.last ≤ m → (x.many > 0 → lastF n l < x.first) → folF (l ++ [x]) a n m = true := by
  induction l with
  | nil =>
    intro a n _ h1 h2 h3
    show folF (x :: []) a n m = true
    rw [folF_cons]
    exact ⟨⟨h1, h2, h3⟩, rfl⟩
  | cons y l ih =>
    intro a n h h1 h2 h3
    rw [folF_cons] at h
    show folF (y :: (l ++ [x])) a n m = true
    rw [folF_cons]
    refine ⟨h.1, ih h.2 ?_ h2 h3⟩
    rw [topF_cons, show max a y.id = y.id by omega] at h1
    exact h1
theorem folF_at {l : List Seal} {m : Nat} : ∀ {a n : Nat}, folF l a n m = true → ∀ i, i < l.length → (if i = 0 then a else (l.getD (i - 1) default).id) < (l.getD i default).id := by
  induction l with
  | nil => intro a n _ i hi; simp at hi
  | cons x l ih =>
    intro a n h i hi
    rw [folF_cons] at h
    cases i with
    | zero => simpa using h.1.1
    | succ i =>
      have := ih h.2 i (by simpa using hi)
      cases i with
      | zero => simpa using this
      | succ i => simpa using this
/-- What always holds, behind c edits. -/
structure SD.Ok (s : SD) (c : Nat) : Prop where
  sn : s.sn.Ok
  n : s.sn.n ≤ c
  fol : folF s.sealed 0 0 s.last = true
  op : s.op > 0 → topF 0 s.sealed < s.op ∧ s.sealed.length < 200
  len : s.sealed.length ≤ 200
  ok : ∀ x ∈ s.sealed, x.ok = true
  last : s.last ≤ 1099511627776
  opM : s.op ≤ 16777215
theorem SD.Ok.in {s : SD} {c : Nat} (h : s.Ok c) : s.In := ⟨h.sn, by have := h.len; omega⟩
theorem SD.Ok.up {s : SD} {c d : Nat} (h : s.Ok c) (hd : c ≤ d) : s.Ok d := { h with n := Nat.le_trans h.n hd }
theorem SN.nilOk : (SN.mk [] 0).Ok := ⟨List.nodup_nil, List.nodup_nil, (fun p hp => by cases hp), (fun p hp => by cases hp), by simp, by simp, (fun p hp => by cases hp), (fun p hp => by cases hp)⟩
theorem SD.nilOk : SD.nil.Ok 0 := ⟨SN.nilOk, Nat.le_refl _, rfl, fun h => absurd h (by decide), by decide, (fun x hx => by cases hx), by decide, by decide⟩
theorem add_n (s : SN) (x : List UInt8) (q : Nat) : (s.add x q).n ≤ s.n + 1 := by
  unfold SN.add
  split
  · exact Nat.le_refl _
  · omega
theorem drop_n (s : SN) (x : List UInt8) : (s.drop x).n = s.n := by
  unfold SN.drop
  split <;> rfl
theorem add_OkN {s : SN} (hs : s.Ok) (x : List UInt8) (q : Nat) (hn : s.n < 1000) : (s.add x q).Ok := by
  by_cases h : s.addE x q = 0
  · exact add_Ok s hs h hn
  · rw [add_same s h]; exact hs
section
variable (s : SD) (e : Edt)
theorem app_no (h : s.appE e ≠ 0) : s.app e = s := by
  unfold SD.appE at h
  unfold SD.app
  cases hm : e.may with
  | false => rfl
  | true =>
    rw [hm] at h
    simp only [cond_true] at h ⊢
    cases hf : s.fo e with
    | true => rw [hf] at h; simp at h
    | false =>
      unfold SD.fo at hf
      unfold SD.dd
      split
      · rename_i hk; rw [if_pos hk] at hf; unfold SD.d1; rw [hf]; rfl
      · rename_i hk1
        rw [if_neg hk1] at hf
        split
        · rename_i hk
          rw [if_pos hk] at hf
          unfold SD.d2
          rw [add_same s.sn (of_decide_eq_false hf)]
        · rename_i hk2
          rw [if_neg hk2] at hf
          split
          · rename_i hk
            rw [if_pos hk] at hf
            unfold SD.d3
            have : s.sn.drop e.name = s.sn := by unfold SN.drop; exact if_neg (of_decide_eq_false hf)
            rw [this]
          · rename_i hk3
            rw [if_neg hk3] at hf
            split
            · rename_i hk; rw [if_pos hk] at hf; unfold SD.d4; rw [hf]; rfl
            · rename_i hk4
              rw [if_neg hk4] at hf
              split
              · rename_i hk; rw [if_pos hk] at hf; unfold SD.d5; rw [hf]; rfl
              · rename_i hk5; rw [if_neg hk5] at hf; unfold SD.d6; rw [hf]; rfl
theorem app_yes (h : s.appE e = 0) : e.may = true ∧ s.fo e = true ∧ s.app e = s.dd e := by
  unfold SD.appE at h
  unfold SD.app
  cases hm : e.may with
  | false => rw [hm] at h; simp at h
  | true =>
    rw [hm] at h
    simp only [cond_true] at h ⊢
    cases hf : s.fo e with
    | true => simp
    | false => rw [hf] at h; simp at h
theorem may_seals (h : e.may = true) : (∀ x ∈ e.seals, x.ok = true) := by
  unfold Edt.may at h
  rw [Bool.and_eq_true] at h
  intro x hx
  obtain ⟨i, hi, rfl⟩ := List.getElem_of_mem hx
  have := List.all_eq_true.1 h.2 i (List.mem_range.2 hi)
  unfold sealAt at this
  rw [Bool.and_eq_true] at this
  simpa [List.getD, hi] using this.1
theorem ok_p {x : Seal} (h : x.ok = true) : 1 ≤ x.id ∧ x.id ≤ 16777215 ∧ 16 ≤ x.size ∧ x.size ≤ 16777216 ∧ (x.many = 0 → x.first = 0 ∧ x.last = 0) ∧ (x.many ≠ 0 → 1 ≤ x.first ∧ x.first ≤ x.last ∧ x.last ≤ 1099511627776 ∧ x.many ≤ x.last - x.first + 1) := of_decide_eq_true h
/-- What an edit that follows does. -/
structure Step (s s' : SD) (c : Nat) : Prop where
  ok : s'.Ok (c + 1)
  le : s.last ≤ s'.last
theorem app_Ok {c : Nat} (hs : s.Ok c) (hc : c < 1000) : Step s (s.app e) c := by
  by_cases h0 : s.appE e = 0
  rotate_left
  · rw [app_no s e h0]
    exact ⟨hs.up (by omega), Nat.le_refl _⟩
  obtain ⟨hm, hf, he⟩ := app_yes s e h0
  rw [he]
  have hp := may_hp e hm
  have hse := may_seals e hm
  have hl0 : ∀ x ∈ s.sealed, x.last ≤ s.last := fun x hx => lastF_mem hx
  unfold SD.fo at hf
  unfold SD.dd
  split
  · rename_i hk
    rw [if_pos hk] at hf
    unfold SD.d1
    have h1 : s.last ≤ e.seq := of_decide_eq_true hf
    rw [hf]
    simp only [cond_true]
    have hl : SD.last ⟨e.seq, s.sn, s.sealed, s.op⟩ = e.seq := Nat.le_antisymm (lastF_le (Nat.le_refl _) fun x hx => Nat.le_trans (hl0 x hx) h1) (lastF_ge _ _)
    exact ⟨⟨hs.sn, Nat.le_succ_of_le hs.n, by rw [hl]; exact folF_mono h1 (Nat.le_refl _) (Nat.le_refl _) hs.fol, hs.op, hs.len, hs.ok, by rw [hl]; exact hp.2.1, hs.opM⟩, by rw [hl]; exact h1⟩
  · rename_i hk1
    rw [if_neg hk1] at hf
    split
    · unfold SD.d2
      exact ⟨⟨add_OkN hs.sn _ _ (by have := hs.n; omega), Nat.le_trans (add_n ..) (by have := hs.n; omega), hs.fol, hs.op, hs.len, hs.ok, hs.last, hs.opM⟩, Nat.le_refl _⟩
    · rename_i hk2
      rw [if_neg hk2] at hf
      split
      · unfold SD.d3
        exact ⟨⟨drop_Ok _ hs.sn _, by rw [drop_n]; have := hs.n; omega, hs.fol, hs.op, hs.len, hs.ok, hs.last, hs.opM⟩, Nat.le_refl _⟩
      · rename_i hk3
        rw [if_neg hk3] at hf
        split
        · rename_i hk
          rw [if_pos hk] at hf
          unfold SD.d4
          have h1 : s.op = 0 ∧ s.top < e.id ∧ s.sealed.length < 200 := of_decide_eq_true hf
          rw [hf]
          simp only [cond_true]
          have ht : s.top = topF 0 s.sealed := by unfold SD.top; rw [h1.1]
          exact ⟨⟨hs.sn, Nat.le_succ_of_le hs.n, hs.fol, fun _ => ⟨by rw [← ht]; exact h1.2.1, h1.2.2⟩, hs.len, hs.ok, hs.last, by have := hp.2.2.2.2.2.2.1; exact this⟩, Nat.le_refl _⟩
        · rename_i hk4
          rw [if_neg hk4] at hf
          split
          · rename_i hk
            rw [if_pos hk] at hf
            unfold SD.d5
            have h1 : e.x.id = s.op ∧ (e.x.many = 0 ∨ s.last < e.x.first) := of_decide_eq_true hf
            rw [hf]
            simp only [cond_true]
            have h2 : e.seals.length = 1 := by have := hp.2.2.2.2.2.2.2.2.1; exact this hk
            have hx : e.x ∈ e.seals := by
              unfold Edt.x
              show e.seals.getD 0 default ∈ e.seals
              rw [List.getD_eq_getElem?_getD, List.getElem?_eq_getElem (by omega)]
              exact List.getElem_mem _
            have h3 := ok_p (hse _ hx)
            have h4 := hs.op (by omega)
            have hl : SD.last ⟨s.base, s.sn, s.sealed ++ [e.x], 0⟩ = max s.last e.x.last := lastF_snoc ..
            refine ⟨⟨hs.sn, Nat.le_succ_of_le hs.n, ?_, fun h => absurd h (Nat.lt_irrefl _), ?_, ?_, ?_, Nat.zero_le _⟩, ?_⟩
            · rw [hl]
              refine folF_snoc (folF_mono (by omega) (Nat.le_refl _) (Nat.le_refl _) hs.fol) (by rw [h1.1]; exact h4.1) (by omega) fun hmm => ?_
              have h5 : lastF 0 s.sealed ≤ s.last := lastF_mono (Nat.zero_le _)
              rcases h1.2 with h6 | h6 <;> omega
            · show (s.sealed ++ [e.x]).length ≤ 200
              rw [List.length_append, List.length_singleton]
              omega
            · intro x hx'
              rcases List.mem_append.1 hx' with hx' | hx'
              · exact hs.ok x hx'
              · rw [List.mem_singleton.1 hx']; exact hse _ hx
            · rw [hl]
              have := hs.last
              by_cases h6 : e.x.many = 0
              · have := (h3.2.2.2.2.1 h6).2; omega
              · have := (h3.2.2.2.2.2 h6).2.2.1; omega
            · rw [hl]; omega
          · rename_i hk5
            rw [if_neg hk5] at hf
            unfold SD.d6
            have h1 : s.op = 0 ∧ s.last ≤ e.seq ∧ folF e.seals s.top 0 e.seq = true := of_decide_eq_true hf
            rw [hf]
            simp only [cond_true]
            have hl : SD.last ⟨e.seq, s.sn, e.seals, s.op⟩ = e.seq := Nat.le_antisymm (lastF_le (Nat.le_refl _) fun x hx => folF_last h1.2.2 x hx) (lastF_ge _ _)
            refine ⟨⟨hs.sn, Nat.le_succ_of_le hs.n, by rw [hl]; exact folF_mono (Nat.le_refl _) (Nat.zero_le _) (Nat.le_refl _) h1.2.2, fun h => ?_, ?_, hse, by rw [hl]; exact hp.2.1, hs.opM⟩, by rw [hl]; exact h1.2.1⟩
            · have : s.op > 0 := h
              omega
            · have := hp.2.2.2.2.2.2.2.2.2; exact this
end
end Go.Proofs.YtmlhaellfpbcgaaDoor.Ax

namespace Go.Proofs.YtmlhaellfpbcgaaDoor.Ax
open Go.RowKit
set_option maxRecDepth 100000
theorem argsE_run {ρ : Rho} {ι : Imm} : ∀ {xs ys : List AV} {vs : List Value}, cellsE xs ys → AV.Rs ρ ι xs vs → AV.Rs ρ ι ys vs
  | [], [], vs, _, h => h
  | x :: xs, y :: ys, vs, h, hr => by
    simp only [cellsE] at h
    simp only [AV.Rs] at hr ⊢
    obtain ⟨u, us, e, r, rs⟩ := hr
    exact ⟨u, us, e, h.1.run _ _ _ r, argsE_run h.2 rs⟩
theorem ACall.argsE {P : Program} {f : FuncId} {args : List AV} (args' : List AV) {H : AH} {K QP : AV → AH → Prop} (he : cellsE args args') (h : ACall P f args' H K QP) : ACall P f args H K QP :=
  ⟨h.fn, fun ρ ι w cargs hG hS hr => h.run ρ ι w cargs hG hS (argsE_run he hr)⟩
noncomputable def cfgZ (N b : Nat) : Cfg := { P := Go.Proofs.Tryd.prog, T := tt, wr := false, N := N, pure := [], base := b, frz := fun op => match op with | .buildSlice .. => true | _ => false }
theorem cfgZOk (N b : Nat) : (cfgZ N b).Ok := ⟨ttOk, ttBytes, by kernel_rfl⟩
theorem seal_ok (a b c : Nat) : AFn Go.Proofs.Tryd.prog 31 [AV.int .u32 a, AV.int .u64 b, AV.int .u64 c] ⟨0, []⟩ (fun _ : Unit => editA ⟨5, [], 0, 0, [⟨a, 100, 1, b, c⟩]⟩) (fun _ => ⟨0, []⟩) := by
  refine ACall.fin ?_
  refine ACall.walk (C := cfgZ 13 0) (cfgZOk _ _) [] (fn := Go.Proofs.Tryd.f31) (by kernel_rfl) (by kernel_rfl) rfl (by kernel_rfl) (by kernel_rfl) rfl rfl ?_
  (conv => whnf); repeat ((first | (refine And.intro ?_ ?_; (focus ((repeat' (first | exact trivial | refine And.intro rfl ?_)); done))) | (refine And.intro ?_ ?_; (focus (first | omega | (dsimp -iota only; omega) | (simp -iota; omega) | (simp -iota; done) | decide)))); conv => whnf)
  refine ⟨_, _, Ent.mk' (e' := [(0, editA ⟨5, [], 0, 0, [⟨a, 100, 1, b, c⟩]⟩)]) (H' := ⟨0, []⟩) [] (by kernel_rfl) ?_ ?_, (), rfl, rfl⟩
  · refine ⟨AVE.aggL ⟨AVE.refl _, AVE.zs, AVE.refl _, AVE.refl _, AVE.slE rfl fun i hi => ?_, rfl⟩, trivial⟩
    have : i = 0 := by omega
    subst this
    exact IVEs.refl _
  · trivial
set_option maxHeartbeats 2000000 in
theorem wakes_ok (t : Tb) : AFn Go.Proofs.Tryd.prog 17 [] ⟨1, [(0, t.C)]⟩ (fun _ : Unit => AV.bool true) (fun _ => ⟨1, [(0, t.C)]⟩) := by
  have h0 : SD.Ok SD.nil 0 := SD.nilOk
  refine ACall.fin ?_
  refine ACall.walk (C := cfg 119 1) (cfgOk _ _) [] (fn := Go.Proofs.Tryd.f17) (by kernel_rfl) (by kernel_rfl) rfl (by kernel_rfl) (by kernel_rfl) rfl rfl ?_
  (conv => whnf); repeat ((first | (refine And.intro ?_ ?_; (focus ((repeat' (first | exact trivial | refine And.intro rfl ?_)); done))) | (refine And.intro ?_ ?_; (focus (first | omega | (dsimp -iota only; omega) | (simp -iota; omega) | (simp -iota; done) | decide)))); conv => whnf)
  refine AFn.use [] (mnew_ok) (by kernel_rfl) rfl (by repeat' first | exact trivial | refine ⟨rfl, ?_⟩) fun _ => ?_
  (conv => whnf); repeat ((first | (refine And.intro ?_ ?_; (focus ((repeat' (first | exact trivial | refine And.intro rfl ?_)); done))) | (refine And.intro ?_ ?_; (focus (first | omega | (dsimp -iota only; omega) | (simp -iota; omega) | (simp -iota; done) | decide)))); conv => whnf)
  -- 1
  refine ACall.argsE [.ptr 1 0, editA ⟨4, [], 0, 1, []⟩] ⟨AVE.refl _, AVE.aggL ⟨AVE.refl _, AVE.zs, AVE.refl _, AVE.refl _, AVE.nilSl' _ _, rfl⟩, rfl⟩ ?_
  have i0 : Edt.In ⟨4, [], 0, 1, []⟩ := ⟨by decide, by decide, by simp [Seal.B]⟩
  refine AFn.use [1, 0] (apply_ok t SD.nil ⟨4, [], 0, 1, []⟩ h0.in i0) (by kernel_rfl) rfl (by repeat' first | exact trivial | refine ⟨rfl, ?_⟩) fun _ => ?_
  rw [show SD.appE SD.nil ⟨4, [], 0, 1, []⟩ = 0 from by rfl, show SD.app SD.nil ⟨4, [], 0, 1, []⟩ = ⟨0, ⟨[], 0⟩, [], 1⟩ from by rfl]
  have h1 : SD.Ok ⟨0, ⟨[], 0⟩, [], 1⟩ 1 := by
    have := (app_Ok SD.nil ⟨4, [], 0, 1, []⟩ h0 (by decide)).ok
    rw [show SD.app SD.nil ⟨4, [], 0, 1, []⟩ = ⟨0, ⟨[], 0⟩, [], 1⟩ from by rfl] at this
    exact this
  (conv => whnf); repeat ((first | (refine And.intro ?_ ?_; (focus ((repeat' (first | exact trivial | refine And.intro rfl ?_)); done))) | (refine And.intro ?_ ?_; (focus (first | omega | (dsimp -iota only; omega) | (simp -iota; omega) | (simp -iota; done) | decide)))); conv => whnf)
  -- 2
  refine ACall.argsE [.ptr 1 0, editA ⟨4, [], 0, 2, []⟩] ⟨AVE.refl _, AVE.aggL ⟨AVE.refl _, AVE.zs, AVE.refl _, AVE.refl _, AVE.nilSl' _ _, rfl⟩, rfl⟩ ?_
  have i1 : Edt.In ⟨4, [], 0, 2, []⟩ := ⟨by decide, by decide, by simp [Seal.B]⟩
  refine AFn.use [1, 0] (apply_ok t ⟨0, ⟨[], 0⟩, [], 1⟩ ⟨4, [], 0, 2, []⟩ h1.in i1) (by kernel_rfl) rfl (by repeat' first | exact trivial | refine ⟨rfl, ?_⟩) fun _ => ?_
  rw [show SD.appE ⟨0, ⟨[], 0⟩, [], 1⟩ ⟨4, [], 0, 2, []⟩ = 5 from by rfl, show SD.app ⟨0, ⟨[], 0⟩, [], 1⟩ ⟨4, [], 0, 2, []⟩ = ⟨0, ⟨[], 0⟩, [], 1⟩ from by rfl]
  (conv => whnf); repeat ((first | (refine And.intro ?_ ?_; (focus ((repeat' (first | exact trivial | refine And.intro rfl ?_)); done))) | (refine And.intro ?_ ?_; (focus (first | omega | (dsimp -iota only; omega) | (simp -iota; omega) | (simp -iota; done) | decide)))); conv => whnf)
  -- 3
  refine AFn.use [] (seal_ok 1 3 9) (by kernel_rfl) rfl (by repeat' first | exact trivial | refine ⟨rfl, ?_⟩) fun _ => ?_
  (conv => whnf); repeat ((first | (refine And.intro ?_ ?_; (focus ((repeat' (first | exact trivial | refine And.intro rfl ?_)); done))) | (refine And.intro ?_ ?_; (focus (first | omega | (dsimp -iota only; omega) | (simp -iota; omega) | (simp -iota; done) | decide)))); conv => whnf)
  have i2 : Edt.In ⟨5, [], 0, 0, [⟨1, 100, 1, 3, 9⟩]⟩ := ⟨by decide, by decide, by simp [Seal.B]⟩
  refine AFn.use [1, 0] (apply_ok t ⟨0, ⟨[], 0⟩, [], 1⟩ ⟨5, [], 0, 0, [⟨1, 100, 1, 3, 9⟩]⟩ h1.in i2) (by kernel_rfl) rfl (by repeat' first | exact trivial | refine ⟨rfl, ?_⟩) fun _ => ?_
  rw [show SD.appE ⟨0, ⟨[], 0⟩, [], 1⟩ ⟨5, [], 0, 0, [⟨1, 100, 1, 3, 9⟩]⟩ = 0 from by rfl, show SD.app ⟨0, ⟨[], 0⟩, [], 1⟩ ⟨5, [], 0, 0, [⟨1, 100, 1, 3, 9⟩]⟩ = ⟨0, ⟨[], 0⟩, [⟨1, 100, 1, 3, 9⟩], 0⟩ from by rfl]
  have h2 : SD.Ok ⟨0, ⟨[], 0⟩, [⟨1, 100, 1, 3, 9⟩], 0⟩ 2 := by
    have := (app_Ok ⟨0, ⟨[], 0⟩, [], 1⟩ ⟨5, [], 0, 0, [⟨1, 100, 1, 3, 9⟩]⟩ h1 (by decide)).ok
    rw [show SD.app ⟨0, ⟨[], 0⟩, [], 1⟩ ⟨5, [], 0, 0, [⟨1, 100, 1, 3, 9⟩]⟩ = ⟨0, ⟨[], 0⟩, [⟨1, 100, 1, 3, 9⟩], 0⟩ from by rfl] at this
    exact this
  (conv => whnf); repeat ((first | (refine And.intro ?_ ?_; (focus ((repeat' (first | exact trivial | refine And.intro rfl ?_)); done))) | (refine And.intro ?_ ?_; (focus (first | omega | (dsimp -iota only; omega) | (simp -iota; omega) | (simp -iota; done) | decide)))); conv => whnf)
  -- 4
  refine ACall.argsE [.ptr 1 0, editA ⟨4, [], 0, 1, []⟩] ⟨AVE.refl _, AVE.aggL ⟨AVE.refl _, AVE.zs, AVE.refl _, AVE.refl _, AVE.nilSl' _ _, rfl⟩, rfl⟩ ?_
  have i3 : Edt.In ⟨4, [], 0, 1, []⟩ := ⟨by decide, by decide, by simp [Seal.B]⟩
  refine AFn.use [1, 0] (apply_ok t ⟨0, ⟨[], 0⟩, [⟨1, 100, 1, 3, 9⟩], 0⟩ ⟨4, [], 0, 1, []⟩ h2.in i3) (by kernel_rfl) rfl (by repeat' first | exact trivial | refine ⟨rfl, ?_⟩) fun _ => ?_
  rw [show SD.appE ⟨0, ⟨[], 0⟩, [⟨1, 100, 1, 3, 9⟩], 0⟩ ⟨4, [], 0, 1, []⟩ = 5 from by rfl, show SD.app ⟨0, ⟨[], 0⟩, [⟨1, 100, 1, 3, 9⟩], 0⟩ ⟨4, [], 0, 1, []⟩ = ⟨0, ⟨[], 0⟩, [⟨1, 100, 1, 3, 9⟩], 0⟩ from by rfl]
  (conv => whnf); repeat ((first | (refine And.intro ?_ ?_; (focus ((repeat' (first | exact trivial | refine And.intro rfl ?_)); done))) | (refine And.intro ?_ ?_; (focus (first | omega | (dsimp -iota only; omega) | (simp -iota; omega) | (simp -iota; done) | decide)))); conv => whnf)
  -- 5
  refine ACall.argsE [.ptr 1 0, editA ⟨1, [], 8, 0, []⟩] ⟨AVE.refl _, AVE.aggL ⟨AVE.refl _, AVE.zs, AVE.refl _, AVE.refl _, AVE.nilSl' _ _, rfl⟩, rfl⟩ ?_
  have i4 : Edt.In ⟨1, [], 8, 0, []⟩ := ⟨by decide, by decide, by simp [Seal.B]⟩
  refine AFn.use [1, 0] (apply_ok t ⟨0, ⟨[], 0⟩, [⟨1, 100, 1, 3, 9⟩], 0⟩ ⟨1, [], 8, 0, []⟩ h2.in i4) (by kernel_rfl) rfl (by repeat' first | exact trivial | refine ⟨rfl, ?_⟩) fun _ => ?_
  rw [show SD.appE ⟨0, ⟨[], 0⟩, [⟨1, 100, 1, 3, 9⟩], 0⟩ ⟨1, [], 8, 0, []⟩ = 5 from by rfl, show SD.app ⟨0, ⟨[], 0⟩, [⟨1, 100, 1, 3, 9⟩], 0⟩ ⟨1, [], 8, 0, []⟩ = ⟨0, ⟨[], 0⟩, [⟨1, 100, 1, 3, 9⟩], 0⟩ from by rfl]
  (conv => whnf); repeat ((first | (refine And.intro ?_ ?_; (focus ((repeat' (first | exact trivial | refine And.intro rfl ?_)); done))) | (refine And.intro ?_ ?_; (focus (first | omega | (dsimp -iota only; omega) | (simp -iota; omega) | (simp -iota; done) | decide)))); conv => whnf)
  -- 6
  refine AFn.use [] (seal_ok 2 3 9) (by kernel_rfl) rfl (by repeat' first | exact trivial | refine ⟨rfl, ?_⟩) fun _ => ?_
  (conv => whnf); repeat ((first | (refine And.intro ?_ ?_; (focus ((repeat' (first | exact trivial | refine And.intro rfl ?_)); done))) | (refine And.intro ?_ ?_; (focus (first | omega | (dsimp -iota only; omega) | (simp -iota; omega) | (simp -iota; done) | decide)))); conv => whnf)
  refine ACall.argsE [.ptr 1 0, editA ⟨6, [], 9, 0, [⟨2, 100, 1, 3, 9⟩]⟩] ⟨AVE.refl _, AVE.aggL ⟨AVE.refl _, AVE.zs, AVE.refl _, AVE.refl _, AVE.refl _, rfl⟩, rfl⟩ ?_
  have i5 : Edt.In ⟨6, [], 9, 0, [⟨2, 100, 1, 3, 9⟩]⟩ := ⟨by decide, by decide, by simp [Seal.B]⟩
  refine AFn.use [1, 0] (apply_ok t ⟨0, ⟨[], 0⟩, [⟨1, 100, 1, 3, 9⟩], 0⟩ ⟨6, [], 9, 0, [⟨2, 100, 1, 3, 9⟩]⟩ h2.in i5) (by kernel_rfl) rfl (by repeat' first | exact trivial | refine ⟨rfl, ?_⟩) fun _ => ?_
  rw [show SD.appE ⟨0, ⟨[], 0⟩, [⟨1, 100, 1, 3, 9⟩], 0⟩ ⟨6, [], 9, 0, [⟨2, 100, 1, 3, 9⟩]⟩ = 0 from by rfl, show SD.app ⟨0, ⟨[], 0⟩, [⟨1, 100, 1, 3, 9⟩], 0⟩ ⟨6, [], 9, 0, [⟨2, 100, 1, 3, 9⟩]⟩ = ⟨9, ⟨[], 0⟩, [⟨2, 100, 1, 3, 9⟩], 0⟩ from by rfl]
  have h3 : SD.Ok ⟨9, ⟨[], 0⟩, [⟨2, 100, 1, 3, 9⟩], 0⟩ 3 := by
    have := (app_Ok ⟨0, ⟨[], 0⟩, [⟨1, 100, 1, 3, 9⟩], 0⟩ ⟨6, [], 9, 0, [⟨2, 100, 1, 3, 9⟩]⟩ h2 (by decide)).ok
    rw [show SD.app ⟨0, ⟨[], 0⟩, [⟨1, 100, 1, 3, 9⟩], 0⟩ ⟨6, [], 9, 0, [⟨2, 100, 1, 3, 9⟩]⟩ = ⟨9, ⟨[], 0⟩, [⟨2, 100, 1, 3, 9⟩], 0⟩ from by rfl] at this
    exact this
  (conv => whnf); repeat ((first | (refine And.intro ?_ ?_; (focus ((repeat' (first | exact trivial | refine And.intro rfl ?_)); done))) | (refine And.intro ?_ ?_; (focus (first | omega | (dsimp -iota only; omega) | (simp -iota; omega) | (simp -iota; done) | decide)))); conv => whnf)
  -- 7
  refine ACall.argsE [.ptr 1 0, editA ⟨2, [97], 5, 0, []⟩] ⟨AVE.refl _, AVE.aggL ⟨AVE.refl _, AVE.refl _, AVE.refl _, AVE.refl _, AVE.nilSl' _ _, rfl⟩, rfl⟩ ?_
  have i6 : Edt.In ⟨2, [97], 5, 0, []⟩ := ⟨by decide, by decide, by simp [Seal.B]⟩
  refine AFn.use [1, 0] (apply_ok t ⟨9, ⟨[], 0⟩, [⟨2, 100, 1, 3, 9⟩], 0⟩ ⟨2, [97], 5, 0, []⟩ h3.in i6) (by kernel_rfl) rfl (by repeat' first | exact trivial | refine ⟨rfl, ?_⟩) fun _ => ?_
  rw [show SD.appE ⟨9, ⟨[], 0⟩, [⟨2, 100, 1, 3, 9⟩], 0⟩ ⟨2, [97], 5, 0, []⟩ = 0 from by rfl, show SD.app ⟨9, ⟨[], 0⟩, [⟨2, 100, 1, 3, 9⟩], 0⟩ ⟨2, [97], 5, 0, []⟩ = ⟨9, ⟨[([97], (5, 1))], 1⟩, [⟨2, 100, 1, 3, 9⟩], 0⟩ from by rfl]
  have h4 : SD.Ok ⟨9, ⟨[([97], (5, 1))], 1⟩, [⟨2, 100, 1, 3, 9⟩], 0⟩ 4 := by
    have := (app_Ok ⟨9, ⟨[], 0⟩, [⟨2, 100, 1, 3, 9⟩], 0⟩ ⟨2, [97], 5, 0, []⟩ h3 (by decide)).ok
    rw [show SD.app ⟨9, ⟨[], 0⟩, [⟨2, 100, 1, 3, 9⟩], 0⟩ ⟨2, [97], 5, 0, []⟩ = ⟨9, ⟨[([97], (5, 1))], 1⟩, [⟨2, 100, 1, 3, 9⟩], 0⟩ from by rfl] at this
    exact this
  (conv => whnf); repeat ((first | (refine And.intro ?_ ?_; (focus ((repeat' (first | exact trivial | refine And.intro rfl ?_)); done))) | (refine And.intro ?_ ?_; (focus (first | omega | (dsimp -iota only; omega) | (simp -iota; omega) | (simp -iota; done) | decide)))); conv => whnf)
  -- 8
  refine ACall.argsE [.ptr 1 0, editA ⟨2, [97], 6, 0, []⟩] ⟨AVE.refl _, AVE.aggL ⟨AVE.refl _, AVE.refl _, AVE.refl _, AVE.refl _, AVE.nilSl' _ _, rfl⟩, rfl⟩ ?_
  have i7 : Edt.In ⟨2, [97], 6, 0, []⟩ := ⟨by decide, by decide, by simp [Seal.B]⟩
  refine AFn.use [1, 0] (apply_ok t ⟨9, ⟨[([97], (5, 1))], 1⟩, [⟨2, 100, 1, 3, 9⟩], 0⟩ ⟨2, [97], 6, 0, []⟩ h4.in i7) (by kernel_rfl) rfl (by repeat' first | exact trivial | refine ⟨rfl, ?_⟩) fun _ => ?_
  rw [show SD.appE ⟨9, ⟨[([97], (5, 1))], 1⟩, [⟨2, 100, 1, 3, 9⟩], 0⟩ ⟨2, [97], 6, 0, []⟩ = 5 from by rfl, show SD.app ⟨9, ⟨[([97], (5, 1))], 1⟩, [⟨2, 100, 1, 3, 9⟩], 0⟩ ⟨2, [97], 6, 0, []⟩ = ⟨9, ⟨[([97], (5, 1))], 1⟩, [⟨2, 100, 1, 3, 9⟩], 0⟩ from by rfl]
  (conv => whnf); repeat ((first | (refine And.intro ?_ ?_; (focus ((repeat' (first | exact trivial | refine And.intro rfl ?_)); done))) | (refine And.intro ?_ ?_; (focus (first | omega | (dsimp -iota only; omega) | (simp -iota; omega) | (simp -iota; done) | decide)))); conv => whnf)
  -- 9
  refine ACall.argsE [.ptr 1 0, editA ⟨3, [98], 0, 0, []⟩] ⟨AVE.refl _, AVE.aggL ⟨AVE.refl _, AVE.refl _, AVE.refl _, AVE.refl _, AVE.nilSl' _ _, rfl⟩, rfl⟩ ?_
  have i8 : Edt.In ⟨3, [98], 0, 0, []⟩ := ⟨by decide, by decide, by simp [Seal.B]⟩
  refine AFn.use [1, 0] (apply_ok t ⟨9, ⟨[([97], (5, 1))], 1⟩, [⟨2, 100, 1, 3, 9⟩], 0⟩ ⟨3, [98], 0, 0, []⟩ h4.in i8) (by kernel_rfl) rfl (by repeat' first | exact trivial | refine ⟨rfl, ?_⟩) fun _ => ?_
  rw [show SD.appE ⟨9, ⟨[([97], (5, 1))], 1⟩, [⟨2, 100, 1, 3, 9⟩], 0⟩ ⟨3, [98], 0, 0, []⟩ = 5 from by rfl, show SD.app ⟨9, ⟨[([97], (5, 1))], 1⟩, [⟨2, 100, 1, 3, 9⟩], 0⟩ ⟨3, [98], 0, 0, []⟩ = ⟨9, ⟨[([97], (5, 1))], 1⟩, [⟨2, 100, 1, 3, 9⟩], 0⟩ from by rfl]
  (conv => whnf); repeat ((first | (refine And.intro ?_ ?_; (focus ((repeat' (first | exact trivial | refine And.intro rfl ?_)); done))) | (refine And.intro ?_ ?_; (focus (first | omega | (dsimp -iota only; omega) | (simp -iota; omega) | (simp -iota; done) | decide)))); conv => whnf)
  refine AFn.use [1] (edits_ok ⟨9, ⟨[([97], (5, 1))], 1⟩, [⟨2, 100, 1, 3, 9⟩], 0⟩ h4.in) (by kernel_rfl) rfl (by repeat' first | exact trivial | refine ⟨rfl, ?_⟩) fun _ => ?_
  rw [show SD.edits ⟨9, ⟨[([97], (5, 1))], 1⟩, [⟨2, 100, 1, 3, 9⟩], 0⟩ = [⟨2, [97], 5, 0, []⟩, ⟨6, [], 9, 0, [⟨2, 100, 1, 3, 9⟩]⟩] from by
    have hl : SN.list ⟨[([97], (5, 1))], 1⟩ = [([97], 5)] := (listS_of (by decide) (List.Perm.refl _) (by decide)).symm
    unfold SD.edits SD.ed1
    rw [hl]
    rfl]
  (conv => whnf); repeat ((first | (refine And.intro ?_ ?_; (focus ((repeat' (first | exact trivial | refine And.intro rfl ?_)); done))) | (refine And.intro ?_ ?_; (focus (first | omega | (dsimp -iota only; omega) | (simp -iota; omega) | (simp -iota; done) | decide)))); conv => whnf)
  refine ⟨_, _, Ent.mk' (e' := [(0, AV.bool true)]) (H' := ⟨1, [(0, t.C)]⟩) [some 0] (by kernel_rfl) ?_ ?_, (), rfl, rfl⟩
  · exact ⟨AVE.refl _, trivial⟩
  · (repeat' first | exact trivial | refine ⟨⟨_, rfl, ChE.refl _⟩, ?_⟩)
end Go.Proofs.YtmlhaellfpbcgaaDoor.Ax
