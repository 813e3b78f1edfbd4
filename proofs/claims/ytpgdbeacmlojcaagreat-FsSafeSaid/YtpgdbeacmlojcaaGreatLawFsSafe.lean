/-
  The law FsSafe: what was made safe lives through a crash, however the crash picks: it returns true for every row of calls, all bytes and all picks.
-/
import Derived.Test.YtpgdbeacmlojcaaGreatLaws07
import Derived.Test.YtpgdbeacmlojcaaGreatQs
import Derived.Test.YtpgdbeacmlojcaaGreatOwn
namespace Go.Proofs.YtpgdbeacmlojcaaGreat.LawFsSafe
open Go.ChangeShapes Go.WideShapes Go.ChangeAt Go.RowKit Go.Proofs.YtpgdbeacmlojcaaGreat.Ax

set_option maxRecDepth 100000 in
theorem contract (H : Type) (enc : TypeId × Value → H) (W : World) (base : Nat) (args : Array Value) (ds gs : List (DataW H)) (before : List MemPlace)
    (hval : ∀ (j : Nat) t v, Tryz.f3.params[j]? = some t → args[j]? = some v → Value.okWide Tryz.prog W .any base t v)
    (hW : DataW.Whole enc Tryz.prog Tryz.f3.params.toList Rows.fsSafeSpec.vars false W args.toList ds gs before) (_hL : laidMetH Tryz.prog Rows.fsSafeRow.laid W)
    (hz0 : (DataW.weightsEach Tryz.prog (Tryz.f3.params.toList ++ Rows.fsSafeSpec.plain.varTypes Tryz.prog) (ds ++ gs)).all (· ≤ reachBytes) = true) :
    Calls Tryz.prog 3 args W fun e W' => ∃ v, e = .returned v ∧ Rows.fsSafeSpec.post enc Tryz.prog Tryz.f3 false true false false W args v W' := by
  have hW' := hW
  obtain ⟨p, q, hA0, hV, rfl, hfz, hnd⟩ := hW
  have hA : DataW.TrodAll enc Tryz.prog W 0 (fun _ => true) true Tryz.f3.params.toList args.toList ds p := hA0
  rw [Tryz.params3] at hA hval
  obtain ⟨v0, vs0, d0, ds0, p0, q0, hargs, rfl, rfl, h0, r0⟩ := trodAll_cons hA
  obtain ⟨v1, vs1, d1, ds1, p1, q1, rfl, rfl, rfl, h1, r1⟩ := trodAll_cons r0
  obtain ⟨v2, vs2, d2, ds2, p2, q2, rfl, rfl, rfl, h2, r2⟩ := trodAll_cons r1
  obtain ⟨rfl, rfl, rfl⟩ := trodAll_nil r2
  obtain rfl : args = #[v0, v1, v2] := by cases args; simp_all
  obtain ⟨rfl, rfl⟩ := trodVars_none hV
  obtain ⟨x0, s0, y0⟩ := open_arg (a := .sl [.int .i64, .str, .str, .int .i64, .int .i64, .bytes, .sl [.int .i64]]) (fits_of _ _ (by kernel_rfl)) (hval 0 22 v0 rfl rfl) h0
  obtain ⟨l0, hl0, rl0⟩ := sh_facts s0 y0
  obtain ⟨x1, s1, y1⟩ := open_arg (a := .bytes) (fits_of _ _ (by kernel_rfl)) (hval 1 23 v1 rfl rfl) h1
  obtain ⟨b1, hb1, rb1⟩ := sh_bytes0 s1 y1
  obtain ⟨x2, s2, y2⟩ := open_arg (a := .sl [.int .i64]) (fits_of _ _ (by kernel_rfl)) (hval 2 24 v2 rfl rfl) h2
  obtain ⟨p2, rp2⟩ := sh_ints' s2 y2
  have hp := ints_reach (j := 2) Tryz.underlying24 (by kernel_rfl) h2 hz0 (by kernel_rfl) rfl rp2
  refine (Law.calls (safe_law l0 hl0 b1 hb1 p2 hp) (W := W) (fun p hp => by simp [globs] at hp) (vs := [v0, v1, v2]) (by simp only [AV.Rs, AV.R]; exact ⟨_, _, rfl, rl0, ⟨_, _, rfl, rb1, ⟨_, _, rfl, rp2, rfl⟩⟩⟩)).mono fun e W' ⟨he, hb⟩ => ?_
  subst he
  exact ⟨_, rfl, Lk.post_law laidOut (by rw [Tryz.params3]; decide +kernel) rfl Tryz.underlying4 rfl hW' rfl rfl rfl hb⟩

theorem reads (os : Os) {H : Type} (enc : TypeId × Value → H) : ∃ places, DataW.whole enc Tryz.prog ((World.holding Tryz.prog os ⟨#[], #[], []⟩).forCall (fun _ _ => 0) ⟨#[], #[.slice none 0 0, .slice none 0 0, .slice none 0 0], []⟩).memory Tryz.f3.params.toList Rows.fsSafeSpec.vars false #[Value.slice none 0 0, .slice none 0 0, .slice none 0 0].toList 8 = some ([.nil, .nil, .nil], [], places) :=
  ⟨[], by kernel_rfl⟩

set_option maxRecDepth 100000 in
theorem lifted (os : Os) (started : os.Started) (H : Type) (enc : TypeId × Value → H) (F : Stop.Interp) :
    ReturnsInHanded {} Tryz.checked os 3 .any ((OpenSpec.ofChange Rows.fsSafeSpec).preRow enc Tryz.prog Tryz.f3 Rows.fsSafeRow.domain false Rows.fsSafeRow.laid) (((OpenSpec.ofChange Rows.fsSafeSpec).at F).post enc Tryz.prog Tryz.f3 false true false false) := by
  obtain ⟨places, hx⟩ := reads os enc
  refine returnsInHanded_of_row (C := Tryz.checked) (s := OpenSpec.ofChange Rows.fsSafeSpec) own started (by kernel_rfl) Tryz.func3
    (witness_row_at (enc := enc) (C := Tryz.checked) false (World.holding Tryz.prog os ⟨#[], #[], []⟩) #[.slice none 0 0, .slice none 0 0, .slice none 0 0] rfl (by kernel_rfl) (by kernel_rfl) (by kernel_rfl)
      (OpenSpec.preRow_of_cond 8 hx (by kernel_rfl) (fun k hk => by cases hk) (by kernel_rfl) ⟨[], (by first | rfl | trivial | simp [DataW.LaidVars]), List.nodup_nil, (fun b off h => by cases h)⟩)) ?_
  intro W base args ds gs before hval hW _ _ hz hL _ _
  exact contract H enc W base args ds gs before hval hW hL hz

theorem said : Rows.FsSafeSaid :=
  OpenClaim.holds_of_cond 3 Tryz.f3 rfl rfl rfl rfl rfl rfl rfl ⟨rfl, rfl, rfl, rfl, rfl⟩ rfl rfl rfl rfl rfl (by kernel_rfl) Tryz.func3 (by kernel_rfl)
    (of_decide_eq_true (by kernel_rfl)) (by unfold Func.isWrapper; first | (rw [if_pos (by decide +kernel)]; kernel_rfl) | (rw [if_neg (by decide +kernel)]; exact ⟨rfl, rfl⟩))
    (fun os started H enc _ F => by rw [OpenClaim.pre_eq_preRow]; exact lifted os started H enc F)

end Go.Proofs.YtpgdbeacmlojcaaGreat.LawFsSafe
