/-
  The law SegNames: names and ids of segments are the document's: it returns true for every input.
-/
import Derived.Test.YtgfkepebfaiepaaGreatDoorQx
import Derived.Test.YtgfkepebfaiepaaGreatDoorOwn
import Derived.Test.YtgfkepebfaiepaaGreatDoorFactsSegNames
import Derived.Test.YtgfkepebfaiepaaGreatDoorCards
import Derived.Test.YtgfkepebfaiepaaGreatDoorTie
namespace Go.Proofs.YtgfkepebfaiepaaGreatDoor.LawSegNames
open Go.ChangeShapes Go.WideShapes Go.ChangeAt Go.RowKit Go.Proofs.YtgfkepebfaiepaaGreatDoor.Ax Go.Proofs.YtgfkepebfaiepaaGreatDoor
theorem gok_of_laid {W : World} (h : laidMetH Tryz.prog Rows.segNamesRow.laid W) : GOk (immOf W) := fun p hp => by
 simp only [globs, List.mem_cons, List.not_mem_nil, or_false] at hp
 rcases hp with rfl | rfl | rfl | rfl
 ·exact ints_laid (n := "hourbook/crc.half") (g := 5) (t := 393) (e := 22) (ns := [0, 274646895, 549293790, 820201905, 1098587580, 1361435347, 1640403810, 1905808397, 2197175160, 2460548119, 2722870694, 2987750089, 3280807620, 3553878443, 3811616794, 4084100981]) (k := .u32) h (List.Mem.head _) (by kernel_rfl) (by kernel_rfl) (by kernel_rfl) (by kernel_rfl) (by kernel_rfl) (by kernel_rfl) (by kernel_rfl)
 ·exact ints_laid (n := "hourbook/record.sizes") (g := 0) (t := 265) (e := 3) (ns := [1, 1, 2, 6, 3, 4]) (k := .i64) h (List.Mem.tail _ (List.Mem.tail _ (List.Mem.tail _ (List.Mem.tail _ (List.Mem.tail _ (List.Mem.tail _ (List.Mem.head _))))))) (by kernel_rfl) (by kernel_rfl) (by kernel_rfl) (by kernel_rfl) (by kernel_rfl) (by kernel_rfl) (by kernel_rfl)
 ·exact text_laid (n := "strconv.ErrSyntax") (g := 1) (ti := 136) (ts := 9) (nm := "*errors.errorString") (tp := 372) (te := 374) (text := [105, 110, 118, 97, 108, 105, 100, 32, 115, 121, 110, 116, 97, 120]) h (List.Mem.tail _ (List.Mem.tail _ (List.Mem.tail _ (List.Mem.tail _ (List.Mem.tail _ (List.Mem.head _)))))) (by kernel_rfl) (by kernel_rfl) Tryz.underlying136 (fun u hu => typeName_ptr_named (nm := "errors.errorString") (tp := 372) (by decide +kernel) (by decide +kernel) (by decide) u hu) Tryz.underlying372 Tryz.underlying374 rfl rfl (by kernel_rfl) (by kernel_rfl) (by kernel_rfl) (by kernel_rfl)
 ·exact ints_laid (n := "math/bits.deBruijn64tab") (g := 7) (t := 397) (e := 5) (ns := [0, 1, 56, 2, 57, 49, 28, 3, 61, 58, 42, 50, 38, 29, 17, 4, 62, 47, 59, 36, 45, 43, 51, 22, 53, 39, 33, 30, 24, 18, 12, 5, 63, 55, 48, 27, 60, 41, 37, 16, 46, 35, 44, 21, 52, 32, 23, 11, 54, 26, 40, 15, 34, 20, 31, 10, 25, 14, 19, 9, 13, 8, 7, 6]) (k := .u8) h (List.Mem.tail _ (List.Mem.tail _ (List.Mem.head _))) (by kernel_rfl) (by kernel_rfl) (by kernel_rfl) (by kernel_rfl) (by kernel_rfl) (by kernel_rfl) (by kernel_rfl)
set_option maxRecDepth 100000 in
theorem contract (H : Type) (enc : TypeId × Value → H) (W : World) (base : Nat) (args : Array Value) (ds gs : List (DataW H)) (before : List MemPlace)
 (hval : ∀ (j : Nat) t v, Tryz.f3.params[j]? = some t → args[j]? = some v → Value.okWide Tryz.prog W .any base t v)
 (hW : DataW.Whole enc Tryz.prog Tryz.f3.params.toList Rows.segNamesSpec.vars false W args.toList ds gs before) (_hL : laidMetH Tryz.prog Rows.segNamesRow.laid W) :
 Calls Tryz.prog 3 args W fun e W' => ∃ v, e = .returned v ∧ Rows.segNamesSpec.post enc Tryz.prog Tryz.f3 false true false false W args v W' := by
 have hW' := hW
 obtain ⟨p, q, hA0, hV, rfl, hfz, hnd⟩ := hW
 have hA : DataW.TrodAll enc Tryz.prog W 0 (fun _ => true) true Tryz.f3.params.toList args.toList ds p := hA0
 rw [Tryz.params3] at hA hval
 obtain ⟨v0, vs0, d0, ds0, p0, q0, hargs, rfl, rfl, h0, r0⟩ := trodAll_cons hA
 obtain ⟨v1, vs1, d1, ds1, p1, q1, rfl, rfl, rfl, h1, r1⟩ := trodAll_cons r0
 obtain ⟨rfl, rfl, rfl⟩ := trodAll_nil r1
 obtain rfl : args = #[v0, v1] := by cases args; simp_all
 obtain ⟨rfl, rfl⟩ := trodVars_none hV
 obtain ⟨x0, s0, y0⟩ := open_arg (a := .int .u32) (fits_of _ _ (by kernel_rfl)) (hval 0 22 v0 rfl rfl) h0
 obtain ⟨n0, hn0, rn0⟩ := sh_u32 s0 y0
 obtain ⟨x1, s1, y1⟩ := open_arg (a := .str) (fits_of _ _ (by kernel_rfl)) (hval 1 9 v1 rfl rfl) h1
 obtain ⟨s1, hs1, rs1⟩ := sh_str s1 y1
 refine (Law.calls (segNames_law n0 hn0 s1 hs1) (W := W) (gok_of_laid _hL) (vs := [v0, v1]) (by simp only [AV.Rs, AV.R]; exact ⟨_, _, rfl, rn0, ⟨_, _, rfl, rs1, rfl⟩⟩)).mono fun e W' ⟨he, hb⟩ => ?_
 subst he
 exact ⟨_, rfl, Lk.post_law laidOut (by rw [Tryz.params3]; decide +kernel) rfl Tryz.underlying4 rfl hW' rfl rfl rfl hb⟩
def lay (k : IntKind) (zs : List Int) : Obj → Obj
 | .cells _ t frozen => .cells (zs.map (Value.int k)).toArray t frozen
 | o => o
def layE (h : Array Obj) (g t e : Nat) (l : List UInt8) : Array Obj :=
 (h.modify g fun
   | .cells _ ty fr => .cells #[.iface t (.pointer (some ⟨h.size, 0, none⟩))] ty fr
   | o => o).push (.cells #[.string ⟨l.toArray⟩] e (0, 0))
noncomputable def laidWorld (os : Os) : World :=
 { World.holding Tryz.prog os ⟨#[], #[], []⟩ with heap := (layE (layE ((((((World.holding Tryz.prog os ⟨#[], #[], []⟩).heap).modify 5 (lay .u32 [0, 274646895, 549293790, 820201905, 1098587580, 1361435347, 1640403810, 1905808397, 2197175160, 2460548119, 2722870694, 2987750089, 3280807620, 3553878443, 3811616794, 4084100981])).modify 6 (lay .u8 [0, 1, 28, 2, 29, 14, 24, 3, 30, 22, 20, 15, 25, 17, 4, 8, 31, 27, 13, 23, 21, 19, 16, 7, 26, 12, 18, 6, 11, 5, 10, 9])).modify 7 (lay .u8 [0, 1, 56, 2, 57, 49, 28, 3, 61, 58, 42, 50, 38, 29, 17, 4, 62, 47, 59, 36, 45, 43, 51, 22, 53, 39, 33, 30, 24, 18, 12, 5, 63, 55, 48, 27, 60, 41, 37, 16, 46, 35, 44, 21, 52, 32, 23, 11, 54, 26, 40, 15, 34, 20, 31, 10, 25, 14, 19, 9, 13, 8, 7, 6])).modify 3 (lay .u64 [1, 10, 100, 1000, 10000, 100000, 1000000, 10000000, 100000000, 1000000000, 10000000000, 100000000000, 1000000000000, 10000000000000, 100000000000000, 1000000000000000, 10000000000000000, 100000000000000000, 1000000000000000000, 10000000000000000000])) 2 372 374 [118, 97, 108, 117, 101, 32, 111, 117, 116, 32, 111, 102, 32, 114, 97, 110, 103, 101]) 1 372 374 [105, 110, 118, 97, 108, 105, 100, 32, 115, 121, 110, 116, 97, 120]).modify 0 (lay .i64 [1, 1, 2, 6, 3, 4]) }
theorem laid_met (os : Os) : laidMet Tryz.prog Rows.segNamesRow.laid ((laidWorld os).forCall (fun _ _ => 0) ⟨#[], #[.int .u32 0, .string ⟨#[]⟩], []⟩).memory :=
 laidMet_of_run' 8 (by kernel_rfl) (by kernel_rfl)
theorem reads (os : Os) {H : Type} (enc : TypeId × Value → H) : ∃ places, DataW.whole enc Tryz.prog ((laidWorld os).forCall (fun _ _ => 0) ⟨#[], #[.int .u32 0, .string ⟨#[]⟩], []⟩).memory Tryz.f3.params.toList Rows.segNamesSpec.vars false #[Value.int .u32 0, .string ⟨#[]⟩].toList 8 = some ([.lit (.int .u32 0), .lit (.string [])], [], places) :=
 ⟨[], by kernel_rfl⟩
set_option maxRecDepth 100000 in
theorem lifted (os : Os) (started : os.Started) (H : Type) (enc : TypeId × Value → H) (F : Stop.Interp) :
 ReturnsInHanded {} Tryz.checked os 3 .any ((OpenSpec.ofChange Rows.segNamesSpec).preRow enc Tryz.prog Tryz.f3 Rows.segNamesRow.domain false Rows.segNamesRow.laid) (((OpenSpec.ofChange Rows.segNamesSpec).at F).post enc Tryz.prog Tryz.f3 false true false false) := by
 obtain ⟨places, hx⟩ := reads os enc
 refine returnsInHanded_of_row (C := Tryz.checked) (s := OpenSpec.ofChange Rows.segNamesSpec) own started (by kernel_rfl) Tryz.func3
  (witness_row_at (enc := enc) (C := Tryz.checked) false (laidWorld os) #[.int .u32 0, .string ⟨#[]⟩] rfl (by kernel_rfl) (by kernel_rfl) (by kernel_rfl)
    (OpenSpec.preRow_of_cond 8 hx (by kernel_rfl) (fun k hk => by cases hk) (by kernel_rfl) (laid_met os))) ?_
 intro W base args ds gs before hval hW _ _ _ hL _ _
 exact contract H enc W base args ds gs before hval hW hL
theorem said : Rows.SegNamesSaid :=
 OpenClaim.holds_of_cond 3 Tryz.f3 rfl rfl rfl rfl rfl rfl rfl ⟨rfl, rfl, rfl, rfl, rfl⟩ rfl rfl rfl rfl rfl (by kernel_rfl) Tryz.func3 FactsSegNames.joined
  (of_decide_eq_true (by kernel_rfl)) (by unfold Func.isWrapper; first | (rw [if_pos (by decide +kernel)]; kernel_rfl) | (rw [if_neg (by decide +kernel)]; exact ⟨rfl, rfl⟩))
  (fun os started H enc _ F => by rw [OpenClaim.pre_eq_preRow]; exact lifted os started H enc F)
theorem params_plain : ∀ t ∈ Tryz.f3.params.toList, Tryz.pinned.checked.prog.wantsStandIn t = false := by decide +kernel
theorem plain (f : FuncId) (fn : Func) (hf : Tryz.pinned.checked.prog.funcNamed "hourbook/hourbooklaw11.SegNames" = some f) (hfn : Tryz.pinned.checked.prog.funcs[f]? = some fn) :
 true = Tryz.pinned.checked.prog.looks [] ∧ ∀ (j : Nat) t, fn.params[j]? = some t → Tryz.pinned.checked.prog.wantsStandIn t = false := by
 obtain rfl : f = 3 := Option.some.inj ((show Tryz.prog.funcNamed "hourbook/hourbooklaw11.SegNames" = some 3 by kernel_rfl).symm.trans hf) |>.symm
 obtain rfl : fn = Tryz.f3 := (Option.some.inj (Tryz.func3.symm.trans hfn)).symm
 exact ⟨by kernel_rfl, fun j t ht => params_plain t (by have := Array.mem_of_getElem? ht; simpa using this)⟩
theorem card : Rows.SegNamesCardSaid :=
 Claim7.holds_tied_plain_at .later [] _ _ _ _ said (fun _ h => by cases h) (by decide +kernel) (fun _ h => by cases h) segNames_row_tie rfl ⟨rfl, rfl⟩ (by kernel_rfl) rfl plain (FactsSegNames.goesBy_none rfl)
end Go.Proofs.YtgfkepebfaiepaaGreatDoor.LawSegNames
