/-
  CrcParts returns true, and leaves its arguments as they were, for any bytes and any three places; the table reads as the program's text lays it.
-/
import Derived.Test.YthdmapjdfghgfaaDoorCrcParts
import Derived.Test.YthdmapjdfghgfaaDoorCrcLaid
namespace Go.Proofs.YthdmapjdfghgfaaDoor.LawCrcParts
open Go.ChangeShapes Go.WideShapes Go.ChangeAt Go.RowKit

set_option maxRecDepth 100000 in
theorem contract (H : Type) (enc : TypeId × Value → H) (W : World) (base : Nat) (args : Array Value) (ds gs : List (DataW H)) (before : List MemPlace)
    (hval : ∀ (j : Nat) t v, Tryd.f6.params[j]? = some t → args[j]? = some v → Value.okWide Tryd.prog W .any base t v)
    (hW : DataW.Whole enc Tryd.prog Tryd.f6.params.toList Rows.crcPartsSpec.vars false W args.toList ds gs before) (hL : laidMetH Tryd.prog Rows.crcPartsRow.laid W) :
    Calls Tryd.prog 6 args W fun e W' => ∃ v, e = .returned v ∧ Rows.crcPartsSpec.post enc Tryd.prog Tryd.f6 false true false false W args v W' := by
  have hW' := hW
  obtain ⟨p, q, hA0, hV, rfl, hfz, hnd⟩ := hW
  have hA : DataW.TrodAll enc Tryd.prog W 0 (fun _ => true) true Tryd.f6.params.toList args.toList ds p := hA0
  rw [Tryd.params6] at hA hval
  obtain ⟨v0, vs0, d0, ds0, p0, q0, hargs, rfl, rfl, h0, r0⟩ := trodAll_cons hA
  obtain ⟨v1, vs1, d1, ds1, p1, q1, rfl, rfl, rfl, h1, r1⟩ := trodAll_cons r0
  obtain ⟨rfl, rfl, rfl⟩ := trodAll_nil r1
  obtain rfl : args = #[v0, v1] := by cases args; simp_all
  obtain ⟨rfl, rfl⟩ := trodVars_none hV
  obtain ⟨A0, l0, c0, rfl, hl0, hm0, hc0⟩ := Lk.open_bytes Tryd.underlying22 Tryd.underlying5 cellsU8 (hval 0 22 v0 rfl rfl) h0
  obtain ⟨zs1, rfl, hz1, hwz1⟩ := Lk.open_arr_ints Tryd.underlying38 Tryd.underlying37 (by kernel_rfl) (by kernel_rfl) (hval 1 38 v1 rfl rfl) h1
  obtain ⟨y0, y1, y2, rfl⟩ : ∃ y0 y1 y2, zs1 = [y0, y1, y2] := by
    match zs1, hz1 with
    | [y0, y1, y2], _ => exact ⟨y0, y1, y2, rfl⟩
  have k0 : 0 ≤ y0 ∧ y0 ≤ 65535 := bounds_u16 (hwz1 0 (by omega))
  have k1 : 0 ≤ y1 ∧ y1 ≤ 65535 := bounds_u16 (hwz1 1 (by omega))
  have k2 : 0 ≤ y2 ∧ y2 ≤ 65535 := bounds_u16 (hwz1 2 (by omega))
  have hT := tab_of_laid hL
  refine (parts_raw W A0 l0 c0 hl0 hm0 hc0 y0 y1 y2 k0.1 k0.2 k1.1 k1.2 k2.1 k2.2 hT).mono fun e W' ⟨he, hb⟩ => ?_
  subst he
  exact ⟨_, rfl, Lk.post_law laidOut (by rw [Tryd.params6]; decide +kernel) rfl Tryd.underlying4 rfl hW' rfl rfl rfl hb⟩

theorem laid_met (os : Os) : laidMet Tryd.prog Rows.crcPartsRow.laid ((laidWorld os).forCall (fun _ _ => 0) ⟨#[], #[.slice none 0 0, .agg #[.int .u16 0, .int .u16 0, .int .u16 0]], []⟩).memory :=
  laidMet_of_run' 8 (by kernel_rfl) (by kernel_rfl)
theorem reads (os : Os) {H : Type} (enc : TypeId × Value → H) : ∃ places, DataW.whole enc Tryd.prog ((laidWorld os).forCall (fun _ _ => 0) ⟨#[], #[.slice none 0 0, .agg #[.int .u16 0, .int .u16 0, .int .u16 0]], []⟩).memory Tryd.f6.params.toList Rows.crcPartsSpec.vars false #[Value.slice none 0 0, .agg #[.int .u16 0, .int .u16 0, .int .u16 0]].toList 8 = some ([.nil, .agg [.lit (.int .u16 0), .lit (.int .u16 0), .lit (.int .u16 0)]], [], places) :=
  ⟨[], by kernel_rfl⟩

set_option maxRecDepth 100000 in
theorem lifted (os : Os) (started : os.Started) (H : Type) (enc : TypeId × Value → H) (F : Stop.Interp) :
    ReturnsInHanded {} Tryd.checked os 6 .any ((OpenSpec.ofChange Rows.crcPartsSpec).preRow enc Tryd.prog Tryd.f6 Rows.crcPartsRow.domain false Rows.crcPartsRow.laid) (((OpenSpec.ofChange Rows.crcPartsSpec).at F).post enc Tryd.prog Tryd.f6 false true false false) := by
  obtain ⟨places, hx⟩ := reads os enc
  refine returnsInHanded_of_row (C := Tryd.checked) (s := OpenSpec.ofChange Rows.crcPartsSpec) own started (by kernel_rfl) Tryd.func6
    (witness_row_at (enc := enc) (C := Tryd.checked) false (laidWorld os) #[.slice none 0 0, .agg #[.int .u16 0, .int .u16 0, .int .u16 0]] rfl (by kernel_rfl) (by kernel_rfl) (by kernel_rfl)
      (OpenSpec.preRow_of_cond 8 hx (by kernel_rfl) (fun k hk => by cases hk) (by kernel_rfl) (laid_met os))) ?_
  intro W base args ds gs before hval hW _ _ _ hL _ _
  exact contract H enc W base args ds gs before hval hW hL

theorem said : Rows.CrcPartsSaid :=
  OpenClaim.holds_of_cond 6 Tryd.f6 rfl rfl rfl rfl rfl rfl rfl ⟨rfl, rfl, rfl, rfl, rfl⟩ rfl rfl rfl rfl rfl (by kernel_rfl) Tryd.func6 (by kernel_rfl)
    (of_decide_eq_true (by kernel_rfl)) (by unfold Func.isWrapper; first | (rw [if_pos (by decide +kernel)]; kernel_rfl) | (rw [if_neg (by decide +kernel)]; exact ⟨rfl, rfl⟩))
    (fun os started H enc _ F => by rw [OpenClaim.pre_eq_preRow]; exact lifted os started H enc F)

theorem plain (f : FuncId) (fn : Func) (hf : Tryd.pinned.checked.prog.funcNamed "hourbook/hourbooklaw02.CrcParts" = some f) (hfn : Tryd.pinned.checked.prog.funcs[f]? = some fn) :
    false = Tryd.pinned.checked.prog.looks [] ∧ ∀ (j : Nat) t, fn.params[j]? = some t → Tryd.pinned.checked.prog.wantsStandIn t = false := by
  obtain rfl : f = 6 := Option.some.inj ((show Tryd.prog.funcNamed "hourbook/hourbooklaw02.CrcParts" = some 6 by kernel_rfl).symm.trans hf) |>.symm
  obtain rfl : fn = Tryd.f6 := (Option.some.inj (Tryd.func6.symm.trans hfn)).symm
  refine ⟨by kernel_rfl, fun j t ht => ?_⟩
  rw [Tryd.params6] at ht
  have hm := Array.mem_of_getElem? ht
  have hall : ∀ t ∈ (#[22, 38] : Array TypeId).toList, Tryd.prog.wantsStandIn t = false := by decide +kernel
  exact hall t (by simpa using hm)

/-- The card. -/
theorem card : Rows.CrcPartsCardSaid :=
  Claim7.holds_tied_plain_at .later [] _ _ _ _ said (fun _ h => by cases h) (by kernel_rfl) (fun _ h => by cases h) crcParts_row_tie rfl ⟨rfl, rfl⟩ (by kernel_rfl) rfl plain (by kernel_rfl)
end Go.Proofs.YthdmapjdfghgfaaDoor.LawCrcParts
