/- The closure that tells the relation of a graph's step. Conditions: what it captured, the graph's edges in their range. -/
import Derived.Test.YtgpjgigmlgoiiaaRel
import Derived.Test.YtgpjgigmlgoiiaaGMem
import Derived.Test.YtgpjgigmlgoiiaaBlk
namespace Go.Proofs.Ytgpjgigmlgoiiaa
open Go.RowKit

theorem or_pow32 (o t : Nat) (ho : o < 4294967296) (ht : t < 32) : bits .or .u32 (o : Int) (2 ^ t % 4294967296) = ((o ||| 2 ^ t : Nat) : Int) := by
  have h1 : 2 ^ t < 4294967296 := by rw [show 4294967296 = 2 ^ 32 by rfl]; exact Nat.pow_lt_pow_right (by omega) ht
  have h2 : (2 : Int) ^ t % 4294967296 = ((2 ^ t : Nat) : Int) := by
    have h3 : (2 : Int) ^ t = ((2 ^ t : Nat) : Int) := (Int.natCast_pow 2 t).symm
    rw [h3]
    obtain ⟨p, hp⟩ : ∃ p : Nat, 2 ^ t = p := ⟨_, rfl⟩
    rw [hp] at h1 ⊢
    omega
  rw [h2, u32_or_nat _ _ ho h1]

/-- The edges of a label, as far as the first k edges. -/
def rcN (n : Nat) (es : List Ed) (l : Int) : Nat → List Nat
  | 0 => rowF n (fun _ => 0)
  | k + 1 => if (es.getD k default).l = l then (rcN n es l k).set (es.getD k default).f.toNat ((rcN n es l k).getD (es.getD k default).f.toNat 0 ||| 2 ^ (es.getD k default).t.toNat) else rcN n es l k
theorem rcN_len (n : Nat) (es : List Ed) (l : Int) : ∀ k, (rcN n es l k).length = n
  | 0 => rowF_len _ _
  | k + 1 => by
    unfold rcN
    split
    · rw [List.length_set, rcN_len n es l k]
    · exact rcN_len n es l k
theorem lo_set {rs : List Nat} (h : Lo32 rs) (i : Nat) {S : Nat} (hS : S < 4294967296) : Lo32 (rs.set i S) := by
  intro j
  simp only [List.getD, List.getElem?_set]
  split
  · split
    · simpa using hS
    · simp
  · have := h j
    simpa [List.getD] using this
theorem pow_lt32 {t : Nat} (h : t < 32) : 2 ^ t < 4294967296 := by rw [show 4294967296 = 2 ^ 32 by rfl]; exact Nat.pow_lt_pow_right (by omega) h
theorem rcN_lo {n : Nat} {es : List Ed} (l : Int) (h : ∀ e ∈ es, 0 ≤ e.t ∧ e.t < 32) : ∀ k, k ≤ es.length → Lo32 (rcN n es l k)
  | 0, _ => by
    intro j
    simp only [rcN, rowF, List.getD, List.getElem?_map]
    cases (List.range n)[j]? <;> simp
  | k + 1, hk => by
    have ih := rcN_lo (n := n) l h k (by omega)
    unfold rcN
    split
    · refine lo_set ih _ ?_
      have h1 := ih (es.getD k default).f.toNat
      have h2 : (es.getD k default).t.toNat < 32 := by
        have h3 : es.getD k default = es[k] := by simp [List.getD, show k < es.length by omega]
        rw [h3]
        have := h es[k] (List.getElem_mem _)
        omega
      exact Nat.or_lt_two_pow (n := 32) h1 (pow_lt32 h2)
    · exact ih

set_option maxRecDepth 100000 in
set_option maxHeartbeats 3200000 in
theorem graphStep_any (n : Nat) (A : Option Addr) (c : Nat) (es : List Ed) (l : Int) (gg : Nat) (w : World) (hn : n ≤ 31) (hx : RdE w A es) (hl : es.length ≤ 1048576) (he : ∀ e ∈ es, (0 ≤ e.f ∧ e.f < n) ∧ (0 ≤ e.t ∧ e.t < 32))
    (c0 : w.cell? ⟨gg, 0, none⟩ = some (.int .i64 n)) (c1 : w.cell? ⟨gg, 1, none⟩ = some (.slice A es.length c)) :
    Calls Try.prog 101 #[.int .u8 l, .pointer (some ⟨gg, 0, none⟩)] w (MadeU w (rcN n es l es.length)) := by
  obtain ⟨i0, hi, hz0, hz1, hz2⟩ := info_parts Try.infoU32
  have hz := made_zero n
  have HX := Lib.hid hx
  have HE := Lib.hid he
  have C1 := Lib.hid c1
  clear hx he
  go_enter Try.func101, Try.ntmps101
  go_wp2_with (first
    | (at_make
       refine wpList_make_full _ rfl _ _ 105 rfl w.heap.size 80 i0 (.int .u32 0) 1 Try.underlying105 hi hz0 hz1 .i64 .i64 (n : Int) (n : Int) n rfl rfl rfl rfl (by rw [hz2]; omega) (by unfold maxLen; omega) (Nat.le_refl _) ?_
       intro w0 hown0 hg0
       have hb0 := (Below.refl w.heap.size w).grown hg0 (Nat.le_refl _) (fun g hg => by cases hg)
       have c1' := held_step hb0 C1.out))
  have hown1 : w0.ownsRow w.heap.size 80 1 (.slice (some ⟨w.heap.size, 0, none⟩) n n) n (u32s (rcN n es l 0)) := by
    have e : rcN n es l 0 = rowF n (fun _ => 0) := rfl
    rw [e, ← hz]
    have h := hown0
    rw [Nat.mul_one] at h
    exact h
  go_loopw [13] (fun i wr => ∃ (k : Nat), k ≤ es.length ∧ i = .int .i64 k ∧ wr.ownsRow w.heap.size 80 1 (.slice (some ⟨w.heap.size, 0, none⟩) n n) n (u32s (rcN n es l k)) ∧ Below w.heap.size w wr) (fun i _ => es.length - (intOf i).toNat)
  case atStart => exact ⟨0, Nat.zero_le _, rfl, hown1, hb0⟩
  case round =>
    obtain ⟨k, hk, rfl, hown, hb⟩ := hrel
    clear hown0 hown1 hg0 hb0 hz c0 c1 c1'
    by_cases hlt : k < es.length
    · obtain ⟨b, o, rfl, y0, y1, y2⟩ := (RdE.below HX.out hb).at_ hlt
      have hr := HE.out _ (List.getElem_mem hlt)
      have hlo := rcN_lo (n := n) l (fun e h => (HE.out e h).2) k hk
      have hrl := rcN_len n es l k
      have hgd : es.getD k default = es[k] := by simp [List.getD, hlt]
      have hnx : rcN n es l (k + 1) = if (es.getD k default).l = l then (rcN n es l k).set (es.getD k default).f.toNat ((rcN n es l k).getD (es.getD k default).f.toNat 0 ||| 2 ^ (es.getD k default).t.toNat) else rcN n es l k := rfl
      rw [hgd] at hnx
      obtain ⟨y, hyy⟩ : ∃ y, es[k] = y := ⟨_, rfl⟩
      rw [hyy] at y0 y1 y2 hr hnx
      obtain ⟨yf, yl, yt⟩ := y
      simp only at y0 y1 y2 hr hnx
      obtain ⟨⟨hf0, hf1⟩, ht0, ht1⟩ := hr
      obtain ⟨f, rfl⟩ : ∃ f : Nat, yf = f := ⟨yf.toNat, by omega⟩
      obtain ⟨t, rfl⟩ : ∃ t : Nat, yt = t := ⟨yt.toNat, by omega⟩
      simp only [Int.toNat_natCast] at hnx
      obtain ⟨rs, hrs⟩ : ∃ rs, rcN n es l k = rs := ⟨_, rfl⟩
      rw [hrs] at hown hlo hrl hnx
      have ka := below_alloc wr (.cells #[.int .i64 f, .int .u8 yl, .int .i64 t] 119)
      have p6 := heap_alloc_new wr (.cells #[.int .i64 f, .int .u8 yl, .int .i64 t] 119)
      have own6 := own_below hown ka
      have hb6 := below_step hb ka
      obtain ⟨g6, hg6⟩ : ∃ g, wr.heap.size = g := ⟨_, rfl⟩
      obtain ⟨W6, hW6⟩ : ∃ W, wr.alloc (.cells #[.int .i64 f, .int .u8 yl, .int .i64 t] 119) = W := ⟨_, rfl⟩
      rw [hW6] at p6 own6 hb6
      rw [hg6] at p6
      have a0 := blk_cell (o := 0) p6 rfl
      have a1 := blk_cell (o := 1) p6 rfl
      have a2 := blk_cell (o := 2) p6 rfl
      have hf : f < n := by omega
      have hco := own6.cellAt f (by omega)
      rw [u32s_at (by omega)] at hco
      have hfo := own6.frozenAt f
      obtain ⟨T, hT⟩ : ∃ T, rs.getD f 0 = T := ⟨_, rfl⟩
      have hTl := hlo f
      rw [hT] at hco hnx hTl
      have ET := Lib.hid hT
      have HNX := Lib.hid hnx
      have HOW := Lib.hid own6
      have HBW := Lib.hid hb6
      have k0 : (0 : Int) ≤ (k : Int) := by omega
      have k1 : (k : Int) < (es.length : Int) := by omega
      have f0 : (0 : Int) ≤ (f : Int) := by omega
      have f1 : (f : Int) < (n : Int) := by omega
      clear hyy hgd hnx hown hb ka p6 own6 hb6 hlo hrs hT
      by_cases hll : yl = l
      · have n1 : (yl == l) = true := by rw [beq_iff_eq]; exact hll
        have HLL := Lib.hid hll
        clear hll
        have hor := or_pow32 T t hTl (by omega)
        have hm32 : min t 32 = t := Nat.min_eq_left (by omega)
        have HOR := Lib.hid hor
        have HM32 := Lib.hid hm32
        go_wp2_with fail
        clear hW6 hg6
        go_region_law fail
        all_goals
          have HS := Lib.hid ((own_below HOW.out (Below.refl _ _).drew).stored f (.int .u32 ((T ||| 2 ^ t : Nat) : Int)))
          have HBD := Lib.hid (HBW.out.drew)
          have HS2 := Lib.hid (HOW.out.stored f (.int .u32 ((T ||| 2 ^ t : Nat) : Int)))
          have HB2 := Lib.hid (HBW.out.grown HS2.out.2 HBW.out.size (fun g hg => by cases hg; exact Nat.le_refl _))
          clear hor hm32
          go_wp2
          go_roundw
          case rel =>
            have h1 := HS.out.1
            have h2 := HS.out.2
            have h3 := HS2.out.1
            rw [u32s_set] at h1 h3
            refine ⟨k + 1, by omega, by go_num, ?_, ?_⟩
            · rw [HNX.out, if_pos HLL.out]
              first
                | exact h1
                | exact own_below h3 (Below.refl _ _).drew
                | (rw [HM32.out, HOR.out]; exact h1)
                | (rw [HM32.out, HOR.out]; exact own_below h3 (Below.refl _ _).drew)
            · first
                | exact HBD.out.grown h2 HBD.out.size (fun g hg => by cases hg; exact Nat.le_refl _)
                | exact HB2.out.drew
                | (rw [HM32.out, HOR.out]; exact HBD.out.grown h2 HBD.out.size (fun g hg => by cases hg; exact Nat.le_refl _))
                | (rw [HM32.out, HOR.out]; exact HB2.out.drew)
          case measure => simp [intOf]; omega
      · have n1 : (yl == l) = false := by rw [beq_eq_false_iff_ne]; exact hll
        have HLL := Lib.hid hll
        clear hll
        go_wp2
        go_roundw
        case rel => exact ⟨k + 1, by omega, by go_num, by rw [HNX.out, if_neg HLL.out]; exact HOW.out, HBW.out⟩
        case measure => simp [intOf]; omega
    · obtain rfl : k = es.length := by omega
      have hlen : (rcN n es l es.length).length = n := rcN_len _ _ _ _
      have HOW := Lib.hid hown
      clear hown
      go_wp2
      go_ret
      exact ⟨some ⟨w.heap.size, 0, none⟩, n, by rw [hlen]; rfl, by rw [hlen]; exact HOW.out, hb⟩
end Go.Proofs.Ytgpjgigmlgoiiaa
