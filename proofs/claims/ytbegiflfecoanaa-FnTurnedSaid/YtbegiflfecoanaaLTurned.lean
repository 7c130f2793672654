/- FnTurned: a sealed text is told from one with a byte turned; SumMore goes on where SumOf ended. No conditions. -/
import Derived.Test.YtbegiflfecoanaaTurnP
import Derived.Test.YtbegiflfecoanaaDrawn
import Derived.Test.YtbegiflfecoanaaOpen
import Derived.Lib.ConvBytes
import Derived.StillTailTactics
namespace Go.Proofs.Ytbegiflfecoanaa
open Go.RowKit

theorem big_any (A : Option Addr) (n c : Nat) (w : World) (hn : n ≤ 9223372036854775807) : Calls Try.prog 35 #[.slice A n c] w fun e w' => e = .returned (.bool (decide (1048576 < n))) ∧ w = w' := by
  by_cases h : 1048576 < n
  · rw [show decide (1048576 < n) = true by simp; omega]
    go_enter Try.func35, Try.ntmps35
    go_wp2
    go_ret
    simp; omega
  · rw [show decide (1048576 < n) = false by simp; omega]
    go_enter Try.func35, Try.ntmps35
    go_wp2
    go_ret
    simp; omega

theorem code0_of {w : World} {v : Value} {zs : List Int} (h : SlK w .u8 v zs) : ∃ A n c, v = .slice A n c ∧ n ≤ 9223372036854775807 ∧ (n ≤ 1048576 → Code0 w A n zs) := by
  obtain ⟨A, n, c, rfl, hx, hnc, hcm, hwf⟩ := h
  refine ⟨A, n, c, rfl, by unfold maxLen at hcm; omega, fun hn => ⟨hx, by omega, fun z hz => ?_⟩⟩
  have := hwf z hz
  simp [Lit.wf, IntKind.min, IntKind.max, IntKind.bits, IntKind.signed] at this
  omega

set_option maxHeartbeats 1600000 in
theorem FnTurned_walk (w : World) (v0 : Value) (zs : List Int) (h0 : SlK w .u8 v0 zs) :
    Calls Try.prog 12 #[v0] w fun e w' => e = .returned (.bool true) ∧ Below w.heap.size w w' := by
  obtain ⟨A, n, c, rfl, hn, hcode⟩ := code0_of h0
  clear h0
  by_cases hbig : 1048576 < n
  · have B := Lib.hid (big_any A n c w hn)
    rw [show decide (1048576 < n) = true by simp; omega] at B
    clear hcode
    go_enter Try.func12, Try.ntmps12
    go_wp2_with fail
    refine B.out.mono ?_
    rintro e w1 ⟨rfl, rfl⟩
    go_wp2
    go_ret
    exact ⟨rfl, Below.refl _ _⟩
  · have B := Lib.hid (big_any A n c w hn)
    rw [show decide (1048576 < n) = false by simp; omega] at B
    have hc := hcode (by omega)
    clear hcode
    have HC := Lib.hid hc
    clear hc
    go_enter Try.func12, Try.ntmps12
    go_wp2_with fail
    refine B.out.mono ?_
    rintro e w1 ⟨rfl, rfl⟩
    clear B
    go_wp2_with fail
    refine (DrawSumOf_any A n c zs _ HC.out).mono ?_
    rintro e w1 ⟨ss, rfl, hss, k1⟩
    have HC1 : Hid (Code0 w1 A n zs) := ⟨HC.out.rd.below k1, HC.out.le, HC.out.bd⟩
    go_wp2_with fail
    refine (DrawPlaces_any A n c zs _ HC1.out).mono ?_
    rintro e w2 ⟨P, pc, ps, rfl, hps, hpb, hpr, k2⟩
    clear HC HC1
    obtain ⟨s, hs⟩ : ∃ s, strOfNums ss = s := ⟨_, rfl⟩
    have hs40 : s.size ≤ 40 := by rw [← hs, strOfNums_size]; exact hss
    rw [hs]
    clear hs hss
    obtain ⟨t, ht⟩ : ∃ t, s ++ strOfNums (four (crc s)) = t := ⟨_, rfl⟩
    have hts : t.size = s.size + 4 := by rw [← ht]; simp [strOfNums_size]; rfl
    have c1 : sealedOut s = .tuple #[.string t, .bool true] := by rw [← ht]; exact if_pos (by omega)
    have hok := sealed_ok s
    rw [ht] at hok
    have hex : t.extract 0 (t.size - 4) = s := by
      apply ByteArray.ext
      apply Array.toList_inj.1
      rw [Lib.extract_data, hts, ← ht, ByteArray.data_append, Array.toList_append, List.drop_zero, show s.size + 4 - 4 - 0 = s.data.toList.length by simp, List.take_left]
    have c2 : unsealedOut t = .tuple #[.string s, .bool true] := by
      unfold unsealedOut
      rw [if_pos ⟨by omega, by omega, hok⟩, hex]
    have C1 := Lib.hid c1
    have C2 := Lib.hid c2
    have HT := Lib.hid ht
    have q1 : ((t.size : Int) != (s.size : Int) + 4) = false := by rw [bne_eq_false_iff_eq]; omega
    have t1 : t.size ≤ s.size + 4 := by omega
    have t2 : s.size + 4 ≤ t.size := by omega
    clear c1 c2 ht hok hex hts
    go_wp2_with fail
    refine (impl_Sealed_any s (by unfold maxLen; omega) _).mono ?_
    rw [C1.out]
    rintro e w3 ⟨rfl, k3⟩
    go_wp2_with fail
    refine (impl_Unsealed_any t (by unfold maxLen; omega) _).mono ?_
    rw [C2.out]
    rintro e w4 ⟨rfl, k4⟩
    have hpr4 := (hpr.below k3).below k4
    have hB4 : Below w.heap.size w w4 := below_step (below_step (below_step k1 k2) k3) k4
    clear hpr k1 k2 k3 k4
    have hcv := Lib.run_convert_string_bytes (P := Try.prog) w4 9 43 5 t Try.underlying9 Try.underlying43 Try.underlying5
    have f1 : ∀ j, j < t.size → (Lib.bytesWorld w4 5 t).frozen? ⟨w4.heap.size, j, none⟩ = false := by
      intro j hj
      have hsz : (Lib.bytesCells w4 5 t).size ≥ t.size := by simp [Lib.bytesCells]
      simp [World.frozen?, Lib.bytesWorld_at_new]
      omega
    have f2 : ∀ j, j < t.size → (Lib.bytesWorld w4 5 t).cell? ⟨w4.heap.size, j, none⟩ = some (.int .u8 (t.data.toList.getD j 0).toNat) := fun j hj => Lib.bytesWorld_cell w4 _ t j hj
    have f3 : Below w4.heap.size w4 (Lib.bytesWorld w4 5 t) := ⟨rfl, rfl, rfl, by rw [Lib.bytesWorld_size]; omega, fun k hk => Lib.bytesWorld_at_old w4 _ t k hk⟩
    obtain ⟨W5, hW5⟩ : ∃ W, W = Lib.bytesWorld w4 5 t := ⟨_, rfl⟩
    obtain ⟨cap, hcap⟩ : ∃ c, c = grownCap w4 t.size 0 5 := ⟨_, rfl⟩
    rw [← hW5, ← hcap] at hcv
    rw [← hW5] at f1 f2 f3
    clear hW5 hcap
    have hpr5 := hpr4.below f3
    obtain ⟨pd, rfl, hp0⟩ := hpr5.at_ (k := 0) (by omega)
    obtain ⟨_, hpe, hp1⟩ := hpr5.at_ (k := 1) (by omega)
    injection hpe with hpe
    subst hpe
    obtain ⟨z0, hz0⟩ : ∃ z, ps.getD 0 0 = z := ⟨_, rfl⟩
    obtain ⟨z1, hz1⟩ : ∃ z, ps.getD 1 0 = z := ⟨_, rfl⟩
    have gd : ∀ k, k < 12 → 0 ≤ ps.getD k 0 ∧ ps.getD k 0 < 10000 := fun k hk => hpb _ (by
      have : k < ps.length := by omega
      simp only [List.getD, List.getElem?_eq_getElem this, Option.getD_some]
      exact List.getElem_mem this)
    have z0b := gd 0 (by omega)
    have z1b := gd 1 (by omega)
    rw [hz0] at hp0 z0b
    rw [hz1] at hp1 z1b
    obtain ⟨z00, z01⟩ := z0b
    obtain ⟨z10, z11⟩ := z1b
    have tpos : 0 < t.size := by omega
    obtain ⟨i, hi⟩ : ∃ i : Nat, z0 % (t.size : Int) = (i : Int) := ⟨(z0 % (t.size : Int)).toNat, (Int.toNat_of_nonneg (Int.emod_nonneg _ (by omega))).symm⟩
    have hil : i < t.size := by
      have := Int.emod_lt_of_pos z0 (show (0 : Int) < (t.size : Int) by omega)
      omega
    have fi := f1 i hil
    have ci := f2 i hil
    obtain ⟨b, hb⟩ : ∃ b, t.data.toList.getD i 0 = b := ⟨_, rfl⟩
    rw [hb] at ci
    have bb := b.toNat_lt
    have F2 := Lib.hid f2
    have HB := Lib.hid hb
    have hadd0 : pd.add 0 = pd := rfl
    rw [hadd0] at hp0
    clear f1 f2 hb gd hpb hpr5 hpr4 hz0 hz1 hps hadd0
    have i0 : (0 : Int) ≤ (i : Int) := by omega
    have i1 : (i : Int) < (t.size : Int) := by omega
    have d0 : 0 ≤ z1 % 255 := by omega
    have d1 : z1 % 255 < 255 := by omega
    have g1 : (0 : Int) < (t.size : Int) := by omega
    go_wp2_with fail
    rw [hi]
    have hp2 : W5.cell? ⟨pd.block, pd.off + 1, none⟩ = some (.int .i64 z1) := hp1
    have e1 : z1.tmod 255 = z1 % 255 := Int.tmod_eq_emod_of_nonneg z10
    have e2 : IntKind.i64.wrap (1 + z1 % 255) = 1 + z1 % 255 := IntWalk.i64_in _ (by omega)
    have e3 : IntKind.u8.wrap (1 + z1 % 255) = 1 + z1 % 255 := IntWalk.u8_in _ (by omega)
    go_region
    clear e1 e2 e3 hp0 hp1 hp2 hcv
    have dpos : 1 + z1 % 255 ≠ 0 := by omega
    have hv := u8_xor (b.toNat : Int) (1 + z1 % 255) (by omega) (by omega) (by omega) (by omega)
    rw [Int.toNat_natCast] at hv
    have hlen : t.data.toList.length = t.size := by simp
    have hbi : t.data.toList[i]'(by omega) = b := by
      have := HB.out
      rw [List.getD_eq_getElem?_getD, List.getElem?_eq_getElem (by omega)] at this
      exact this
    obtain ⟨v, hvv⟩ : ∃ v : Nat, v = b.toNat ^^^ (1 + z1 % 255).toNat := ⟨_, rfl⟩
    have hv256 : v < 256 := by rw [hvv]; exact Nat.xor_lt_two_pow (n := 8) (by omega) (by omega)
    rw [← hvv] at hv
    rw [hv]
    have hne : UInt8.ofNat v ≠ t.data.toList[i]'(by omega) := by
      rw [hbi]
      intro h
      have h1 := congrArg UInt8.toNat h
      rw [UInt8.toNat_ofNat', Nat.mod_eq_of_lt hv256, hvv] at h1
      have h2 : (b.toNat ^^^ (1 + z1 % 255).toNat) ^^^ b.toNat = b.toNat ^^^ b.toNat := by rw [h1]
      rw [Nat.xor_comm b.toNat, Nat.xor_assoc, Nat.xor_self, Nat.xor_zero] at h2
      omega
    obtain ⟨xs, hxs⟩ : ∃ xs : List Int, xs = (t.data.toList.map fun c => (c.toNat : Int)).set i (v : Int) := ⟨_, rfl⟩
    have hxl : xs.length = t.size := by rw [hxs]; simp
    have hdat : (strOfNums xs).data.toList = t.data.toList.set i (UInt8.ofNat v) := by
      rw [strOfNums_data, hxs, List.map_set, List.map_map]
      congr 1
      conv => rhs; rw [← List.map_id t.data.toList]
      apply List.map_congr_left
      intro c _
      simp
    have hlst : t.data.toList = s.data.toList ++ fourB (crc s) := by rw [← HT.out, ByteArray.data_append, Array.toList_append, strOf_four]
    have hbad := turned_no s t.data.toList hlst i (UInt8.ofNat v) (by omega) hne (strOfNums xs) hdat
    have hcells : ∀ j, j < t.size → ((W5.setCell ⟨w4.heap.size, i, none⟩ (.int .u8 (v : Int))).drew).cell? ⟨w4.heap.size, 0 + j, none⟩ = some (.int .u8 (xs.getD j 0)) := by
      intro j hj
      rw [Nat.zero_add]
      show (W5.setCell ⟨w4.heap.size, i, none⟩ (.int .u8 (v : Int))).cell? ⟨w4.heap.size, j, none⟩ = _
      by_cases hji : j = i
      · subst hji
        rw [World.cell?_setCell_same _ _ _ ci, hxs]
        simp [List.getD, hlen, hj]
      · rw [World.cell?_setCell_other _ _ _ _ (by intro e; injection e with _ e _; exact hji e.symm), F2.out j hj, hxs]
        simp [List.getD, Ne.symm hji, hj]
    have hcv := run_convert_bytes_arg (P := Try.prog) ((W5.setCell ⟨w4.heap.size, i, none⟩ (.int .u8 (v : Int))).drew) 43 5 Try.underlying43 Try.underlying5 w4.heap.size 0 t.size cap xs hxl hcells 9 Try.underlying9
    have hB6 : Below w.heap.size w ((W5.setCell ⟨w4.heap.size, i, none⟩ (.int .u8 (v : Int))).drew) := ((below_step hB4 f3).setCell hB4.size _).drew
    obtain ⟨W6, hW6⟩ : ∃ W, W = (W5.setCell ⟨w4.heap.size, i, none⟩ (.int .u8 (v : Int))).drew := ⟨_, rfl⟩
    rw [← hW6] at hcv hB6 ⊢
    have c3 : unsealedOut (strOfNums xs) = .tuple #[.string ⟨#[]⟩, .bool false] := by
      unfold unsealedOut
      rw [if_neg (fun h => by rw [hbad] at h; cases h.2.2)]
    have C3 := Lib.hid c3
    have M1 := crc_more s ⟨#[120]⟩
    have C4 := Lib.hid M1
    have sx : (strOfNums xs).size ≤ maxLen := by rw [strOfNums_size]; unfold maxLen; omega
    clear c3 M1 hW6 hcells hbad hdat hxs hxl hne hv hvv hbi hlst hlen HB F2 ci fi hi HT
    go_wp2_with fail
    refine (impl_Unsealed_any (strOfNums xs) sx _).mono ?_
    rw [C3.out]
    rintro e w7 ⟨rfl, k7⟩
    go_wp2_with fail
    refine (impl_SumOf_any s (by unfold maxLen; omega) _).mono ?_
    rintro e w8 ⟨rfl, rfl⟩
    go_wp2_with fail
    refine (impl_SumMore_any (crc s) (crc_lt s) ⟨#[120]⟩ (by unfold maxLen; decide) _).mono ?_
    rw [C4.out]
    rintro e w9 ⟨rfl, rfl⟩
    have hsx : (s ++ ⟨#[120]⟩ : ByteArray).size ≤ maxLen := by
      have : (s ++ ⟨#[120]⟩ : ByteArray).size = s.size + 1 := by simp; rfl
      unfold maxLen; omega
    go_wp2_with fail
    generalize (s ++ ({ data := #[120] } : ByteArray)) = S2 at hsx ⊢
    refine (impl_SumOf_any S2 hsx _).mono ?_
    rintro e w10 ⟨rfl, rfl⟩
    go_wp2
    go_ret
    exact ⟨rfl, below_step hB6 k7⟩
end Go.Proofs.Ytbegiflfecoanaa
