/-
  MergeKnown returns true: a closed run, reckoned; the tables read as the program's text lays them.
-/
import Derived.Test.YtjhaikcokbmdbaaGreatDoorMxRun
import Derived.Test.YtjhaikcokbmdbaaGreatDoorOwn
import Derived.Test.YtjhaikcokbmdbaaGreatDoorFactsMergeKnown
import Derived.Test.YtjhaikcokbmdbaaGreatDoorCards
import Derived.Test.YtjhaikcokbmdbaaGreatDoorTie
namespace Go.Proofs.YtjhaikcokbmdbaaGreatDoor.LawMergeKnown
open Go.ChangeShapes Go.WideShapes Go.ChangeAt Go.RowKit Go.Proofs.YtjhaikcokbmdbaaGreatDoor

set_option maxRecDepth 100000 in
theorem contract (H : Type) (enc : TypeId × Value → H) (W : World) (base : Nat) (args : Array Value) (ds gs : List (DataW H)) (before : List MemPlace)
    (hval : ∀ (j : Nat) t v, Tryz.f3.params[j]? = some t → args[j]? = some v → Value.okWide Tryz.prog W .any base t v)
    (hW : DataW.Whole enc Tryz.prog Tryz.f3.params.toList Rows.mergeKnownSpec.vars false W args.toList ds gs before) (_hL : laidMetH Tryz.prog Rows.mergeKnownRow.laid W) :
    Calls Tryz.prog 3 args W fun e W' => ∃ v, e = .returned v ∧ Rows.mergeKnownSpec.post enc Tryz.prog Tryz.f3 false true false false W args v W' := by
  have hW' := hW
  obtain ⟨p, q, hA0, hV, rfl, hfz, hnd⟩ := hW
  have hA : DataW.TrodAll enc Tryz.prog W 0 (fun _ => true) true Tryz.f3.params.toList args.toList ds p := hA0
  rw [Tryz.params3] at hA hval
  obtain ⟨hargs, rfl, rfl⟩ := trodAll_nil hA
  obtain rfl : args = #[] := by cases args; simp_all
  obtain ⟨rfl, rfl⟩ := trodVars_none hV
  refine (Cx.law_calls W (Cx.gok _hL)).mono fun e W' ⟨he, hb⟩ => ?_
  subst he
  exact ⟨_, rfl, Lk.post_law laidOut (by rw [Tryz.params3]; decide +kernel) rfl Tryz.underlying4 rfl hW' rfl rfl rfl hb⟩

def lay (k : IntKind) (zs : List Int) : Obj → Obj
  | .cells _ t frozen => .cells (zs.map (Value.int k)).toArray t frozen
  | o => o
def layM (h : Array Obj) (g : Nat) (l : List (Int × Nat)) : Array Obj := (h.modify g fun
    | .cells _ ty fr => .cells #[.map (some h.size)] ty fr
    | o => o).push (.map (l.mapIdx fun i x => ⟨.int .i64 x.1, .func (.func x.2) #[] #[], i⟩).toArray l.length)
/-- A world for the witness: the settled one, the tables holding what their initialisers lay. -/
noncomputable def laidWorld (os : Os) : World :=
  { World.holding Tryz.prog os ⟨#[], #[], []⟩ with heap := layM (((((((World.holding Tryz.prog os ⟨#[], #[], []⟩).heap).modify 6 (lay .u32 Cx.tab0)).modify 7 (lay .u8 Cx.tab1)).modify 8 (lay .u8 Cx.tab2)).modify 2 (lay .u64 Cx.tab3)).modify 1 (lay .i64 Cx.tab4)) 0 [(1, 456), (2, 457), (3, 459), (4, 461), (5, 462), (6, 463)] }
theorem laid_met (os : Os) : laidMetH Tryz.prog Rows.mergeKnownRow.laid ((laidWorld os).forCall (fun _ _ => 0) ⟨#[], #[], []⟩).memory :=
  laidMetH_of_parts3 (fuel := 8) (laidMet_of_run' 8 (by kernel_rfl) (by kernel_rfl)) (by kernel_rfl) (by kernel_rfl)
theorem reads (os : Os) {H : Type} (enc : TypeId × Value → H) : ∃ places, DataW.whole enc Tryz.prog ((laidWorld os).forCall (fun _ _ => 0) ⟨#[], #[], []⟩).memory Tryz.f3.params.toList Rows.mergeKnownSpec.vars false (#[] : Array Value).toList 8 = some ([], [], places) :=
  ⟨[], by kernel_rfl⟩

set_option maxRecDepth 100000 in
theorem lifted (os : Os) (started : os.Started) (H : Type) (enc : TypeId × Value → H) (F : Stop.Interp) :
    ReturnsInHanded {} Tryz.checked os 3 .any ((OpenSpec.ofChange Rows.mergeKnownSpec).preRow enc Tryz.prog Tryz.f3 Rows.mergeKnownRow.domain false Rows.mergeKnownRow.laid) (((OpenSpec.ofChange Rows.mergeKnownSpec).at F).post enc Tryz.prog Tryz.f3 false true false false) := by
  obtain ⟨places, hx⟩ := reads os enc
  refine returnsInHanded_of_row (C := Tryz.checked) (s := OpenSpec.ofChange Rows.mergeKnownSpec) own started (by kernel_rfl) Tryz.func3
    (witness_row_at (enc := enc) (C := Tryz.checked) false (laidWorld os) #[] rfl (by kernel_rfl) (by kernel_rfl) (by kernel_rfl)
      (OpenSpec.preRow_of_cond 8 hx (by kernel_rfl) (fun k hk => by cases hk) (by kernel_rfl) (laid_met os))) ?_
  intro W base args ds gs before hval hW _ _ _ hL _ _
  exact contract H enc W base args ds gs before hval hW hL

theorem said : Rows.MergeKnownSaid :=
  OpenClaim.holds_of_cond 3 Tryz.f3 rfl rfl rfl rfl rfl rfl rfl ⟨rfl, rfl, rfl, rfl, rfl⟩ rfl rfl rfl rfl rfl (by kernel_rfl) Tryz.func3 FactsMergeKnown.joined
    (of_decide_eq_true (by kernel_rfl)) (by unfold Func.isWrapper; first | (rw [if_pos (by decide +kernel)]; kernel_rfl) | (rw [if_neg (by decide +kernel)]; exact ⟨rfl, rfl⟩))
    (fun os started H enc _ F => by rw [OpenClaim.pre_eq_preRow]; exact lifted os started H enc F)

theorem plain (f : FuncId) (fn : Func) (hf : Tryz.pinned.checked.prog.funcNamed "hourbook/hourbooklaw27.MergeKnown" = some f) (hfn : Tryz.pinned.checked.prog.funcs[f]? = some fn) :
    true = Tryz.pinned.checked.prog.looks [] ∧ ∀ (j : Nat) t, fn.params[j]? = some t → Tryz.pinned.checked.prog.wantsStandIn t = false := by
  obtain rfl : f = 3 := Option.some.inj ((show Tryz.prog.funcNamed "hourbook/hourbooklaw27.MergeKnown" = some 3 by kernel_rfl).symm.trans hf) |>.symm
  obtain rfl : fn = Tryz.f3 := (Option.some.inj (Tryz.func3.symm.trans hfn)).symm
  refine ⟨by kernel_rfl, fun j t ht => ?_⟩
  rw [Tryz.params3] at ht
  simp at ht

/-- The card. -/
theorem card : Rows.MergeKnownCardSaid :=
  Claim7.holds_tied_plain_at .later [] _ _ _ _ said (fun _ h => by cases h) (by decide +kernel) (fun _ h => by cases h) mergeKnown_row_tie rfl ⟨rfl, rfl⟩ (by kernel_rfl) rfl plain (FactsMergeKnown.goesBy_none rfl)
end Go.Proofs.YtjhaikcokbmdbaaGreatDoor.LawMergeKnown
