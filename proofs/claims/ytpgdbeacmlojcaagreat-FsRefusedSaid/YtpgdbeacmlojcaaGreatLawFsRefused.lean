/-
  The law FsRefused: a step that tells an error changes nothing that is there; with the power off nothing can be done or read, until a crash; the fuse lets through just as many steps: it returns true for every row of calls and every fuse.
-/
import Derived.Test.YtpgdbeacmlojcaaGreatLaws07
import Derived.Test.YtpgdbeacmlojcaaGreatOwn
namespace Go.Proofs.YtpgdbeacmlojcaaGreat.LawFsRefused
open Go.ChangeShapes Go.WideShapes Go.ChangeAt Go.RowKit Go.Proofs.YtpgdbeacmlojcaaGreat.Ax

set_option maxRecDepth 100000 in
theorem contract (H : Type) (enc : TypeId × Value → H) (W : World) (base : Nat) (args : Array Value) (ds gs : List (DataW H)) (before : List MemPlace)
    (hval : ∀ (j : Nat) t v, Tryz.f5.params[j]? = some t → args[j]? = some v → Value.okWide Tryz.prog W .any base t v)
    (hW : DataW.Whole enc Tryz.prog Tryz.f5.params.toList Rows.fsRefusedSpec.vars false W args.toList ds gs before) (_hL : laidMetH Tryz.prog Rows.fsRefusedRow.laid W) :
    Calls Tryz.prog 5 args W fun e W' => ∃ v, e = .returned v ∧ Rows.fsRefusedSpec.post enc Tryz.prog Tryz.f5 false true false false W args v W' := by
  have hW' := hW
  obtain ⟨p, q, hA0, hV, rfl, hfz, hnd⟩ := hW
  have hA : DataW.TrodAll enc Tryz.prog W 0 (fun _ => true) true Tryz.f5.params.toList args.toList ds p := hA0
  rw [Tryz.params5] at hA hval
  obtain ⟨v0, vs0, d0, ds0, p0, q0, hargs, rfl, rfl, h0, r0⟩ := trodAll_cons hA
  obtain ⟨v1, vs1, d1, ds1, p1, q1, rfl, rfl, rfl, h1, r1⟩ := trodAll_cons r0
  obtain ⟨rfl, rfl, rfl⟩ := trodAll_nil r1
  obtain rfl : args = #[v0, v1] := by cases args; simp_all
  obtain ⟨rfl, rfl⟩ := trodVars_none hV
  obtain ⟨x0, s0, y0⟩ := open_arg (a := .sl [.int .i64, .str, .str, .int .i64, .int .i64, .bytes, .sl [.int .i64]]) (fits_of _ _ (by kernel_rfl)) (hval 0 22 v0 rfl rfl) h0
  obtain ⟨l0, hl0, rl0⟩ := sh_facts s0 y0
  obtain ⟨x1, s1, y1⟩ := open_arg (a := .int .u8) (fits_of _ _ (by kernel_rfl)) (hval 1 5 v1 rfl rfl) h1
  obtain ⟨z1, hz1, rz1⟩ := sh_u8 s1 y1
  refine (Law.calls (refused_law l0 hl0 z1 hz1) (W := W) (fun p hp => by simp [globs] at hp) (vs := [v0, v1]) (by simp only [AV.Rs, AV.R]; exact ⟨_, _, rfl, rl0, ⟨_, _, rfl, rz1, rfl⟩⟩)).mono fun e W' ⟨he, hb⟩ => ?_
  subst he
  exact ⟨_, rfl, Lk.post_law laidOut (by rw [Tryz.params5]; decide +kernel) rfl Tryz.underlying4 rfl hW' rfl rfl rfl hb⟩

theorem reads (os : Os) {H : Type} (enc : TypeId × Value → H) : ∃ places, DataW.whole enc Tryz.prog ((World.holding Tryz.prog os ⟨#[], #[], []⟩).forCall (fun _ _ => 0) ⟨#[], #[.slice none 0 0, .int .u8 0], []⟩).memory Tryz.f5.params.toList Rows.fsRefusedSpec.vars false #[Value.slice none 0 0, .int .u8 0].toList 8 = some ([.nil, .lit (.int .u8 0)], [], places) :=
  ⟨[], by kernel_rfl⟩

set_option maxRecDepth 100000 in
theorem lifted (os : Os) (started : os.Started) (H : Type) (enc : TypeId × Value → H) (F : Stop.Interp) :
    ReturnsInHanded {} Tryz.checked os 5 .any ((OpenSpec.ofChange Rows.fsRefusedSpec).preRow enc Tryz.prog Tryz.f5 Rows.fsRefusedRow.domain false Rows.fsRefusedRow.laid) (((OpenSpec.ofChange Rows.fsRefusedSpec).at F).post enc Tryz.prog Tryz.f5 false true false false) := by
  obtain ⟨places, hx⟩ := reads os enc
  refine returnsInHanded_of_row (C := Tryz.checked) (s := OpenSpec.ofChange Rows.fsRefusedSpec) own started (by kernel_rfl) Tryz.func5
    (witness_row_at (enc := enc) (C := Tryz.checked) false (World.holding Tryz.prog os ⟨#[], #[], []⟩) #[.slice none 0 0, .int .u8 0] rfl (by kernel_rfl) (by kernel_rfl) (by kernel_rfl)
      (OpenSpec.preRow_of_cond 8 hx (by kernel_rfl) (fun k hk => by cases hk) (by kernel_rfl) ⟨[], (by first | rfl | trivial | simp [DataW.LaidVars]), List.nodup_nil, (fun b off h => by cases h)⟩)) ?_
  intro W base args ds gs before hval hW _ _ _ hL _ _
  exact contract H enc W base args ds gs before hval hW hL

theorem said : Rows.FsRefusedSaid :=
  OpenClaim.holds_of_cond 5 Tryz.f5 rfl rfl rfl rfl rfl rfl rfl ⟨rfl, rfl, rfl, rfl, rfl⟩ rfl rfl rfl rfl rfl (by kernel_rfl) Tryz.func5 (by kernel_rfl)
    (of_decide_eq_true (by kernel_rfl)) (by unfold Func.isWrapper; first | (rw [if_pos (by decide +kernel)]; kernel_rfl) | (rw [if_neg (by decide +kernel)]; exact ⟨rfl, rfl⟩))
    (fun os started H enc _ F => by rw [OpenClaim.pre_eq_preRow]; exact lifted os started H enc F)

end Go.Proofs.YtpgdbeacmlojcaaGreat.LawFsRefused
