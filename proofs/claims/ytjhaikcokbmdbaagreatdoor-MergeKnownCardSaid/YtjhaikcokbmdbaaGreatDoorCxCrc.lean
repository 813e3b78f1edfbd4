/-
  Closed runs: CRC-32C, reckoned by words of four bits, is what the program's More tells.
-/
import Derived.Test.YtjhaikcokbmdbaaGreatDoorCxZg
import Derived.Test.YtjhaikcokbmdbaaGreatDoorCrcMg
namespace Go.Proofs.YtjhaikcokbmdbaaGreatDoor.Cx
open Go.RowKit Go.Proofs.YtjhaikcokbmdbaaGreatDoor.Ax

theorem halfN_eq (i : Nat) (h : i < 16) : halfN i = (Cm.half.getD i 0#32).toNat := by
  have : ∀ j : _root_.Fin 16, halfN j.1 = (Cm.half.getD j.1 0#32).toNat := by decide +kernel
  exact this ⟨i, h⟩
theorem crcH_eq {β : Type} (t : BitVec 32) (k : Nat → β) : crcH t.toNat k = k ((t >>> 4) ^^^ Cm.half.getD (t &&& 15#32).toNat 0#32).toNat := by
  unfold crcH
  rw [natK_eq]
  have h15 : (t &&& 15#32).toNat = t.toNat % 16 := by
    rw [BitVec.toNat_and]
    exact Nat.and_two_pow_sub_one_eq_mod t.toNat 4
  rw [BitVec.toNat_xor, BitVec.toNat_ushiftRight, h15, ← halfN_eq _ (Nat.mod_lt _ (by decide))]
  rfl
theorem crcB_eq {β : Type} (s : BitVec 32) (c : Nat) (hc : c < 256) (k : Nat → β) : crcB s.toNat c k = k (Cm.upd s (UInt8.ofNat c)).toNat := by
  unfold crcB
  rw [natK_eq]
  have e : Nat.xor s.toNat c = (s ^^^ (UInt8.ofNat c).toBitVec.setWidth 32).toNat := by
    rw [BitVec.toNat_xor, BitVec.toNat_setWidth]
    have : (UInt8.ofNat c).toBitVec.toNat = c := by
      show (UInt8.ofNat c).toNat = c
      rw [UInt8.toNat_ofNat']
      exact Nat.mod_eq_of_lt hc
    rw [this, Nat.mod_eq_of_lt (by omega)]
    rfl
  rw [e, crcH_eq, crcH_eq]
  exact congrArg (fun x : BitVec 32 => k x.toNat) (Cm.upd_half s (UInt8.ofNat c) _ _ rfl rfl)
theorem crcL_eq {β : Type} : ∀ (l : List Nat) (s : BitVec 32) (k : Nat → β), (∀ c ∈ l, c < 256) → crcL l s.toNat k = k (Cm.F s (u8s l)).toNat
  | [], _, _, _ => rfl
  | c :: cs, s, k, h => by
    show crcB s.toNat c (fun s => crcL cs s k) = _
    rw [crcB_eq s c (h c (List.mem_cons_self ..)), crcL_eq cs _ k fun x hx => h x (List.mem_cons_of_mem _ hx)]
    rfl
theorem crcK_eq {β : Type} (s : Nat) (hs : s < 4294967296) (l : List Nat) (h : ∀ c ∈ l, c < 256) (k : Nat → β) : crcK s l k = k (Cm.more (BitVec.ofNat 32 s) (u8s l)).toNat := by
  have nt : ∀ x : BitVec 32, 4294967295 - x.toNat = (~~~ x).toNat := fun x => by rw [BitVec.toNat_not]
  have e : s = (BitVec.ofNat 32 s).toNat := by rw [BitVec.toNat_ofNat, Nat.mod_eq_of_lt hs]
  unfold crcK
  rw [natK_eq]
  conv => lhs; rw [e]
  rw [nt, crcL_eq l _ _ h, natK_eq, nt]
  rfl
theorem x3 {C : Cf} {W : World} {zs : List Int} (hP : C.P = Tryz.prog) (hG : GOk C.G W) (hg : C.G.get 6 = some (mapL (CV.int .u32) zs)) (hz : zs = (Cm.half.map fun x => (x.toNat : Int))) : X3 C W 321 := by
  intro s x H l hl ρ w az hS hR
  unfold crcC at hl
  split at hl
  · cases hl
  · rename_i cs hcs
    split at hl
    · cases hl
    · rename_i bs hbs
      cases hb : (Nat.blt s 4294967296 && Nat.ble (len bs) 140737488351232) with
      | false => rw [hb] at hl; cases hl
      | true =>
        rw [hb] at hl
        rw [Bool.and_eq_true, Nat.blt_eq, len_eq] at hb
        obtain ⟨hs, hlen⟩ := hb
        have hlen := Nat.le_of_ble_eq_true hlen
        simp only [CV.Rs] at hR
        obtain ⟨u, us, e1, r1, v, vs, e2, r2, e3⟩ := hR
        simp only [CV.R] at r1
        subst e1 e2 e3 r1
        obtain ⟨A, n, c, vs, e4, hnc, r3, r4, r5, r6⟩ := rowCells_spec hS r2 hcs
        subst e4
        obtain ⟨h256, e5⟩ := bytesC_spec hbs r3
        subst e5
        rw [cond_true, crcK_eq s hs bs h256] at hl
        injection hl with hl
        subst hl
        have hn : n = (u8s bs).length := by
          unfold bvalsN at r4
          unfold u8s
          simp only [List.length_map, Nat.mul_one] at r4 ⊢
          omega
        have hBs : Bs w w.heap.size A (u8s bs) := fun k hk => by
          have hk' : k < bs.length := by simpa [u8s] using hk
          have hv : (bvalsN bs)[k]? = some (Value.int .u8 (bs[k] : Nat)) := by
            unfold bvalsN
            simp [hk']
          obtain ⟨b, o, q1, q2⟩ := r6 k _ hv (by decide)
          refine ⟨_, q1, ?_, ?_⟩
          · rcases Nat.lt_or_ge b w.heap.size with h' | h'
            · exact h'
            · simp [World.cell?, Array.getElem?_eq_none h'] at q2
          · have ea : Addr.add ⟨b, o, none⟩ k = ⟨b, o + k, none⟩ := by
              unfold Addr.add
              split
              · rename_i h0; subst h0; rfl
              · rfl
            rw [ea, q2]
            unfold byteAt B8
            have : (u8s bs).getD k 0 = UInt8.ofNat bs[k] := by simp [u8s, List.getD, hk']
            rw [this, UInt8.toNat_ofNat', Nat.mod_eq_of_lt (h256 _ (List.getElem_mem hk'))]
        have hT : Tab w := by
          obtain ⟨h1, vs, h2, h3⟩ := hG.2 _ _ hg
          have hb := hS.base.block _ h1
          have hvs : vs = zs.map (Value.int .u32) := by
            have a := h2 ρ _ hS.gm
            have b := Rs_ints ρ .u32 zs
            have det : ∀ (zs : List Int) (p q : List Value), CV.Rs ρ (mapL (CV.int .u32) zs) p → CV.Rs ρ (mapL (CV.int .u32) zs) q → p = q := by
              intro zs
              induction zs with
              | nil => intro p q hp hq; simp only [mapL, CV.Rs] at hp hq; rw [hp, hq]
              | cons z zs ih =>
                intro p q hp hq
                rw [mapL_cons] at hp hq
                simp only [CV.Rs, CV.R] at hp hq
                obtain ⟨a, ar, e1, e2, e3⟩ := hp
                obtain ⟨b, bs, f1, f2, f3⟩ := hq
                subst e1 f1 e2 f2
                rw [ih _ _ e3 f3]
            exact det zs _ _ a b
          refine ⟨Nat.lt_of_lt_of_le h1 hS.base.size, fun i hi => ?_⟩
          have hc : w.cell? ⟨6, i, none⟩ = W.cell? ⟨6, i, none⟩ := by
            unfold World.cell?
            rw [hb]
          rw [hc]
          refine h3 i _ ?_
          rw [hvs, hz]
          have hl16 : Cm.half.length = 16 := by decide
          simp [hl16, hi, U, List.getD]
        have hm := more_any (BitVec.ofNat 32 s) A (u8s bs) c w.heap.size w (by rw [← hn]; unfold bvalsN at r4; simp only [List.length_map, Nat.mul_one] at r4; omega) hT hBs
        refine .inl ⟨321, #[.int .u32 (U (BitVec.ofNat 32 s)), .slice A (u8s bs).length c], w, ?_, ?_⟩
        · have hU : U (BitVec.ofNat 32 s) = (s : Int) := by
            unfold U
            rw [BitVec.toNat_ofNat, Nat.mod_eq_of_lt hs]
          rw [hU, ← hn, hP]
          have h1 : Tryz.prog.funcs[321]? = some Tryz.f321 := Tryz.func321
          have h2 : (Tryz.f321.name == "runtime.NumGoroutine") = false := by kernel_rfl
          have h3 : Tryz.f321.body.isNone = false := by kernel_rfl
          simp only [callFunc, Sem.run_bind, run_program, Result.andThen_ok, h1, h2, h3, Bool.false_eq_true, if_false, Sem.run_pure]
          rfl
        · refine callsIn_wide.2 ?_
          rw [hP]
          refine hm.mono fun e w' ⟨he, hw⟩ => ?_
          subst he hw
          exact ⟨.int .u32 (.ofNat (Cm.more (BitVec.ofNat 32 s) (u8s bs)).toNat), H, ρ, List.mem_singleton.2 rfl, Rho.le.refl _, hS, by simp only [CV.R]; rfl⟩
end Go.Proofs.YtjhaikcokbmdbaaGreatDoor.Cx
