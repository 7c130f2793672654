/- sameGraph: two graphs compared. No conditions but the lengths. -/
import Derived.Test.YtlnphcongijfiaaGraph
import Derived.Test.YtlnphcongijfiaaGraphOk
import Derived.Test.YtlnphcongijfiaaBelowQ
namespace Go.Proofs.Ytlnphcongijfiaa
open Go.RowKit

theorem take_same {a b : List Ed} {k : Nat} (h1 : k < a.length) (h2 : k < b.length) (h : a.take k = b.take k) (he : a[k] = b[k]) : Hid (a.take (k + 1) = b.take (k + 1)) := by
  refine Lib.hid ?_
  rw [List.take_add_one, List.take_add_one, h, List.getElem?_eq_getElem h1, List.getElem?_eq_getElem h2, he]

set_option maxRecDepth 100000 in
set_option maxHeartbeats 6400000 in
theorem sameGraph_any (s1 : Int) (A1 : Option Addr) (c1 : Nat) (es1 : List Ed) (s2 : Int) (A2 : Option Addr) (c2 : Nat) (es2 : List Ed) (w : World) (hx : RdE w A1 es1) (hy : RdE w A2 es2) (h1 : es1.length ≤ 4294967296) :
    Calls Try.prog 34 #[.agg #[.int .i64 s1, .slice A1 es1.length c1], .agg #[.int .i64 s2, .slice A2 es2.length c2]] w fun e w' => e = .returned (.bool (PP (s1 = s2 ∧ es1 = es2))) ∧ Below w.heap.size w w' := by
  have HX := Lib.hid hx
  have HY := Lib.hid hy
  clear hx hy
  have hB2 : Below w.heap.size w ((w.alloc (.cells #[.int .i64 s1, .slice A1 es1.length c1] 44)).alloc (.cells #[.int .i64 s2, .slice A2 es2.length c2] 44)) := ((Below.refl w.heap.size w).alloc (Nat.le_refl _) _).alloc (by simp) _
  obtain ⟨r, hr⟩ : ∃ r, PP (s1 = s2 ∧ es1 = es2) = r := ⟨_, rfl⟩
  rw [hr]
  have HR := Lib.hid hr
  clear hr
  by_cases hs : s1 = s2
  · subst hs
    by_cases hl : es1.length = es2.length
    · obtain ⟨n, hn⟩ : ∃ n, es1.length = n := ⟨_, rfl⟩
      have hn2 : es2.length = n := hl ▸ hn
      clear hl
      rw [hn] at h1
      rw [hn, hn2]
      rw [hn, hn2] at hB2
      have HN1 := Lib.hid hn
      have HN2 := Lib.hid hn2
      clear hn hn2
      go_enter Try.func34, Try.ntmps34
      go_wp2
      go_loopw [5] (fun i wr => ∃ k : Nat, k ≤ n ∧ i = .int .i64 k ∧ Hid (es1.take k = es2.take k) ∧ wr.cell? ⟨w.heap.size, 1, none⟩ = some (.slice A1 n c1) ∧ wr.cell? ⟨w.heap.size + 1, 1, none⟩ = some (.slice A2 n c2) ∧ Below w.heap.size w wr) (fun i _ => n - (intOf i).toNat)
      case atStart => exact ⟨0, Nat.zero_le _, rfl, Lib.hid rfl, by go_simp, by go_simp, hB2⟩
      case round =>
        obtain ⟨k, hk, rfl, HK, b0, b1, hb⟩ := hrel
        by_cases hlt : k < n
        · have hk1 : k < es1.length := by rw [HN1.out]; exact hlt
          have hk2 : k < es2.length := by rw [HN2.out]; exact hlt
          obtain ⟨b, o, rfl, c0, c1, c2⟩ := (RdE.below HX.out hb).at_ hk1
          obtain ⟨d, p, rfl, e0, e1, e2⟩ := (RdE.below HY.out hb).at_ hk2
          obtain ⟨x, hxx⟩ : ∃ x, es1[k] = x := ⟨_, rfl⟩
          obtain ⟨y, hyy⟩ : ∃ y, es2[k] = y := ⟨_, rfl⟩
          rw [hxx] at c0 c1 c2
          rw [hyy] at e0 e1 e2
          have EX := Lib.hid hxx
          have EY := Lib.hid hyy
          clear hxx hyy
          obtain ⟨xf, xl, xt⟩ := x
          obtain ⟨yf, yl, yt⟩ := y
          simp only at c0 c1 c2 e0 e1 e2
          have k0 : (0 : Int) ≤ (k : Int) := by omega
          have k1 : (k : Int) < (n : Int) := by omega
          by_cases he : (xf = yf ∧ xl = yl) ∧ xt = yt
          · obtain ⟨⟨rfl, rfl⟩, rfl⟩ := he
            go_wp2_with fail
            go_region
            go_wp2
            go_roundw
            case rel => exact ⟨k + 1, by omega, by go_num, take_same hk1 hk2 HK.out (EX.out.trans EY.out.symm), by go_keep, by go_keep, hb.drew⟩
            case measure => simp [intOf]; omega
          · have hne := Lib.hid (show es1[k] ≠ es2[k] from fun h => he (by rw [EX.out, EY.out] at h; injection h with h1 h2 h3; exact ⟨⟨h1, h2⟩, h3⟩))
            have q0 : ∀ w, (binOp .neq 62 (.agg #[.int .i64 xf, .int .u8 xl, .int .i64 xt]) (.agg #[.int .i64 yf, .int .u8 yl, .int .i64 yt])).run Try.prog w = .ok (.bool true) w := by
              intro w
              by_cases a1 : xf = yf <;> by_cases a2 : xl = yl <;> by_cases a3 : xt = yt <;> simp [a1, a2, a3] at he <;> go_simp
            clear he
            go_wp2_with fail
            go_region
            go_wp2
            go_ret
            exact ⟨ret_b2 ((PP_no fun h => hne.out (by simp [h.2])).symm.trans HR.out), hb.drew⟩
        · obtain rfl : k = n := by omega
          go_wp2
          go_ret
          exact ⟨ret_b2 ((PP_yes ⟨by simp, by
            have h1 := HK.out
            rwa [List.take_of_length_le (by have := HN1.out; omega), List.take_of_length_le (by have := HN2.out; omega)] at h1⟩).symm.trans HR.out), hb⟩
    · have hne := Lib.hid (fun h : s1 = s1 ∧ es1 = es2 => hl (by rw [h.2]))
      have hl2 : ¬ (es1.length : Int) = (es2.length : Int) := by omega
      obtain rfl : false = r := (PP_no hne.out).symm.trans HR.out
      clear hne
      go_enter Try.func34, Try.ntmps34
      go_wp2
      go_ret
      exact ⟨rfl, hB2⟩
  · obtain rfl : false = r := (PP_no (fun h => hs h.1)).symm.trans HR.out
    go_enter Try.func34, Try.ntmps34
    go_wp2
    go_ret
    exact ⟨rfl, hB2⟩
end Go.Proofs.Ytlnphcongijfiaa
