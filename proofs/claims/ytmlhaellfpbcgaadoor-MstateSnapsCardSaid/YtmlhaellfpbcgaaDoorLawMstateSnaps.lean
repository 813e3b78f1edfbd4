/-
  The law MstateSnaps: edits of snapshots and those of segments do not know of each other: it returns true for every row of edits and every row of turns.
-/
import Derived.Test.YtmlhaellfpbcgaaDoorLaws23s
import Derived.Test.YtmlhaellfpbcgaaDoorOwn
import Derived.Test.YtmlhaellfpbcgaaDoorFactsMstateSnaps
import Derived.Test.YtmlhaellfpbcgaaDoorCards
import Derived.Test.YtmlhaellfpbcgaaDoorTie
namespace Go.Proofs.YtmlhaellfpbcgaaDoor.LawMstateSnaps
open Go.ChangeShapes Go.WideShapes Go.ChangeAt Go.RowKit Go.Proofs.YtmlhaellfpbcgaaDoor.Ax Go.Proofs.YtmlhaellfpbcgaaDoor

def ents : List LEnt := [(1, [104, 111, 117, 114, 98, 111, 111, 107, 47, 109, 115, 116, 97, 116, 101, 46, 100, 111, 101, 115, 36, 49], 94), (2, [104, 111, 117, 114, 98, 111, 111, 107, 47, 109, 115, 116, 97, 116, 101, 46, 100, 111, 101, 115, 36, 50], 95), (3, [104, 111, 117, 114, 98, 111, 111, 107, 47, 109, 115, 116, 97, 116, 101, 46, 100, 111, 101, 115, 36, 51], 97), (4, [104, 111, 117, 114, 98, 111, 111, 107, 47, 109, 115, 116, 97, 116, 101, 46, 100, 111, 101, 115, 36, 52], 99), (5, [104, 111, 117, 114, 98, 111, 111, 107, 47, 109, 115, 116, 97, 116, 101, 46, 100, 111, 101, 115, 36, 53], 100), (6, [104, 111, 117, 114, 98, 111, 111, 107, 47, 109, 115, 116, 97, 116, 101, 46, 100, 111, 101, 115, 36, 54], 101)]
def tab : DataW Unit := .map [(.int .i64 1, .iface "func" (.lit (.string [104, 111, 117, 114, 98, 111, 111, 107, 47, 109, 115, 116, 97, 116, 101, 46, 100, 111, 101, 115, 36, 49]))), (.int .i64 2, .iface "func" (.lit (.string [104, 111, 117, 114, 98, 111, 111, 107, 47, 109, 115, 116, 97, 116, 101, 46, 100, 111, 101, 115, 36, 50]))), (.int .i64 3, .iface "func" (.lit (.string [104, 111, 117, 114, 98, 111, 111, 107, 47, 109, 115, 116, 97, 116, 101, 46, 100, 111, 101, 115, 36, 51]))), (.int .i64 4, .iface "func" (.lit (.string [104, 111, 117, 114, 98, 111, 111, 107, 47, 109, 115, 116, 97, 116, 101, 46, 100, 111, 101, 115, 36, 52]))), (.int .i64 5, .iface "func" (.lit (.string [104, 111, 117, 114, 98, 111, 111, 107, 47, 109, 115, 116, 97, 116, 101, 46, 100, 111, 101, 115, 36, 53]))), (.int .i64 6, .iface "func" (.lit (.string [104, 111, 117, 114, 98, 111, 111, 107, 47, 109, 115, 116, 97, 116, 101, 46, 100, 111, 101, 115, 36, 54])))]
set_option maxRecDepth 100000 in
theorem contract (H : Type) (enc : TypeId × Value → H) (W : World) (base : Nat) (args : Array Value) (ds gs : List (DataW H)) (before : List MemPlace)
    (hval : ∀ (j : Nat) t v, Tryd.f6.params[j]? = some t → args[j]? = some v → Value.okWide Tryd.prog W .any base t v)
    (hW : DataW.Whole enc Tryd.prog Tryd.f6.params.toList Rows.mstateSnapsSpec.vars false W args.toList ds gs before) (_hL : laidMetH Tryd.prog Rows.mstateSnapsRow.laid W) :
    Calls Tryd.prog 6 args W fun e W' => ∃ v, e = .returned v ∧ Rows.mstateSnapsSpec.post enc Tryd.prog Tryd.f6 false true false false W args v W' := by
  have hW' := hW
  obtain ⟨p, q, hA0, hV, rfl, hfz, hnd⟩ := hW
  have hA : DataW.TrodAll enc Tryd.prog W 0 (fun _ => true) true Tryd.f6.params.toList args.toList ds p := hA0
  rw [Tryd.params6] at hA hval
  obtain ⟨v0, vs0, d0, ds0, p0, q0, hargs, rfl, rfl, h0, r0⟩ := trodAll_cons hA
  obtain ⟨v1, vs1, d1, ds1, p1, q1, rfl, rfl, rfl, h1, r1⟩ := trodAll_cons r0
  obtain ⟨rfl, rfl, rfl⟩ := trodAll_nil r1
  obtain rfl : args = #[v0, v1] := by cases args; simp_all
  obtain ⟨rfl, rfl⟩ := trodVars_none hV
  obtain ⟨x0, s0, y0⟩ := open_arg (a := editT) (fits_of _ _ (by kernel_rfl)) (hval 0 22 v0 rfl rfl) h0
  obtain ⟨l0, hl0, rl0⟩ := sh_edits s0 y0
  obtain ⟨x1, s1, y1⟩ := open_arg (a := .sl [.bool]) (fits_of _ _ (by kernel_rfl)) (hval 1 62 v1 rfl rfl) h1
  obtain ⟨l1, rl1⟩ := sh_bools s1 y1
  obtain ⟨b, es, clock, hb, hc, ho, hm⟩ := gm_of_laid (n := "hourbook/mstate.does") (d := tab) (g := 0) (t := 72) (k := 3) (e := 71) ents (by kernel_rfl) (by kernel_rfl) (by kernel_rfl) (by kernel_rfl) Tryd.underlying71 (by kernel_rfl) (by kernel_rfl) (by decide +kernel) (_hL.funcs (show ("hourbook/mstate.does", DataW.iface "func table" tab) ∈ Rows.mstateSnapsRow.laid from List.Mem.head _))
  refine (AFn.tableCalls (snaps_law ⟨es, clock⟩ l0 hl0 l1) (fun p hp => by simp [globs] at hp) hb hc ho (hm _) (vs := [v0, v1]) (by simp only [AV.Rs, AV.R]; exact ⟨_, _, rfl, rl0, ⟨_, _, rfl, rl1, rfl⟩⟩)).mono fun e W' ⟨he, hb⟩ => ?_
  subst he
  exact ⟨_, rfl, Lk.post_law laidOut (by rw [Tryd.params6]; decide +kernel) rfl Tryd.underlying4 rfl hW' rfl rfl rfl hb⟩

def layM (h : Array Obj) (g : Nat) (l : List (Int × Nat)) : Array Obj := (h.modify g fun
    | .cells _ ty fr => .cells #[.map (some h.size)] ty fr
    | o => o).push (.map (l.mapIdx fun i x => ⟨.int .i64 x.1, .func (.func x.2) #[] #[], i⟩).toArray l.length)
/-- A world for the witness: the settled one, the table as its initialiser lays it. -/
noncomputable def laidWorld (os : Os) : World :=
  { World.holding Tryd.prog os ⟨#[], #[], []⟩ with heap := layM ((World.holding Tryd.prog os ⟨#[], #[], []⟩).heap) 0 [(1, 94), (2, 95), (3, 97), (4, 99), (5, 100), (6, 101)] }
theorem laid_met (os : Os) : laidMetH Tryd.prog Rows.mstateSnapsRow.laid ((laidWorld os).forCall (fun _ _ => 0) ⟨#[], #[.slice none 0 0, .slice none 0 0], []⟩).memory :=
  laidMetH_of_parts3 (fuel := 8) (laidMet_of_run' 8 (by kernel_rfl) (by kernel_rfl)) (by kernel_rfl) (by kernel_rfl)
theorem reads (os : Os) {H : Type} (enc : TypeId × Value → H) : ∃ places, DataW.whole enc Tryd.prog ((laidWorld os).forCall (fun _ _ => 0) ⟨#[], #[.slice none 0 0, .slice none 0 0], []⟩).memory Tryd.f6.params.toList Rows.mstateSnapsSpec.vars false #[Value.slice none 0 0, .slice none 0 0].toList 8 = some ([.nil, .nil], [], places) :=
  ⟨[], by kernel_rfl⟩

set_option maxRecDepth 100000 in
theorem lifted (os : Os) (started : os.Started) (H : Type) (enc : TypeId × Value → H) (F : Stop.Interp) :
    ReturnsInHanded {} Tryd.checked os 6 .any ((OpenSpec.ofChange Rows.mstateSnapsSpec).preRow enc Tryd.prog Tryd.f6 Rows.mstateSnapsRow.domain false Rows.mstateSnapsRow.laid) (((OpenSpec.ofChange Rows.mstateSnapsSpec).at F).post enc Tryd.prog Tryd.f6 false true false false) := by
  obtain ⟨places, hx⟩ := reads os enc
  refine returnsInHanded_of_row (C := Tryd.checked) (s := OpenSpec.ofChange Rows.mstateSnapsSpec) own started (by kernel_rfl) Tryd.func6
    (witness_row_at (enc := enc) (C := Tryd.checked) false (laidWorld os) #[.slice none 0 0, .slice none 0 0] rfl (by kernel_rfl) (by kernel_rfl) (by kernel_rfl)
      (OpenSpec.preRow_of_cond 8 hx (by kernel_rfl) (fun k hk => by cases hk) (by kernel_rfl) (laid_met os))) ?_
  intro W base args ds gs before hval hW _ _ _ hL _ _
  exact contract H enc W base args ds gs before hval hW hL

theorem said : Rows.MstateSnapsSaid :=
  OpenClaim.holds_of_cond 6 Tryd.f6 rfl rfl rfl rfl rfl rfl rfl ⟨rfl, rfl, rfl, rfl, rfl⟩ rfl rfl rfl rfl rfl (by kernel_rfl) Tryd.func6 FactsMstateSnaps.joined
    (of_decide_eq_true (by kernel_rfl)) (by unfold Func.isWrapper; first | (rw [if_pos (by decide +kernel)]; kernel_rfl) | (rw [if_neg (by decide +kernel)]; exact ⟨rfl, rfl⟩))
    (fun os started H enc _ F => by rw [OpenClaim.pre_eq_preRow]; exact lifted os started H enc F)

theorem params_plain : ∀ t ∈ Tryd.f6.params.toList, Tryd.pinned.checked.prog.wantsStandIn t = false := by decide +kernel
theorem plain (f : FuncId) (fn : Func) (hf : Tryd.pinned.checked.prog.funcNamed "hourbook/hourbooklaw23.MstateSnaps" = some f) (hfn : Tryd.pinned.checked.prog.funcs[f]? = some fn) :
    true = Tryd.pinned.checked.prog.looks [] ∧ ∀ (j : Nat) t, fn.params[j]? = some t → Tryd.pinned.checked.prog.wantsStandIn t = false := by
  obtain rfl : f = 6 := Option.some.inj ((show Tryd.prog.funcNamed "hourbook/hourbooklaw23.MstateSnaps" = some 6 by kernel_rfl).symm.trans hf) |>.symm
  obtain rfl : fn = Tryd.f6 := (Option.some.inj (Tryd.func6.symm.trans hfn)).symm
  exact ⟨by kernel_rfl, fun j t ht => params_plain t (by have := Array.mem_of_getElem? ht; simpa using this)⟩

/-- The card. -/
theorem card : Rows.MstateSnapsCardSaid :=
  Claim7.holds_tied_plain_at .later [] _ _ _ _ said (fun _ h => by cases h) (by decide +kernel) (fun _ h => by cases h) mstateSnaps_row_tie rfl ⟨rfl, rfl⟩ (by kernel_rfl) rfl plain (FactsMstateSnaps.goesBy_none rfl)
end Go.Proofs.YtmlhaellfpbcgaaDoor.LawMstateSnaps
