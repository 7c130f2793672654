/- spec.TurnedPath: the reference's function. Conditions: the sizes of the lengths. -/
import Derived.Test.YtdmheaommmnhoaaCopyP
import Derived.Test.YtdmheaommmnhoaaTurnPL
import Derived.Test.YtdmheaommmnhoaaSPathOk
namespace Go.Proofs.Ytdmheaommmnhoaa
open Go.RowKit

def tuX (b : Bool) (p : Pc) : Pc := if b = true ∧ p.op = 2 then ⟨p.op, p.l, p.k.reverse⟩ else p
theorem tuX_len (b : Bool) (p : Pc) : (tuX b p).k.length = p.k.length := by unfold tuX; split <;> simp
theorem tuX_op (b : Bool) (p : Pc) : (tuX b p).op = p.op ∧ (tuX b p).l = p.l := by unfold tuX; split <;> simp
theorem tuP_tuX (ps : List Pc) : tuP ps = ps.map (tuX (PP (PaOk ps))) := by
  by_cases h : PaOk ps
  · rw [tuP_yes h, PP_yes h]
    apply List.map_congr_left
    intro p _
    simp [tuX, tuPc]
  · rw [tuP_no h, PP_no h]
    have : ∀ p ∈ ps, tuX false p = p := fun p _ => by simp [tuX]
    rw [List.map_congr_left this, List.map_id']
theorem PB.pushed {w W W1 W3 : World} {B A A1 K : Option Addr} {n d c c1 kc G : Nat} {xs : List PcX} {p : Pc} {o : Obj} (h : PB w B n d A c xs W) (hb : Below W.heap.size W W1) (hG : W.heap.size ≤ G)
    (hk : W1.ownsRow G 3 1 (.slice K p.k.length kc) p.k.length (p.k.map (Value.int .i64)))
    (hown : W3.ownsRow (w.heap.size + 3) 79 3 (.slice A1 (xs.length + 1) c1) (xs.length + 1) (pxCells xs ++ [.int .i64 p.op, .int .u8 p.l, .slice K p.k.length kc]))
    (hg : (W1.alloc o).grownBy W3 (Value.slice A xs.length c).ownBlock) :
    PB w B n d A1 c1 (xs ++ [⟨p, K, kc⟩]) (W3.setCell ⟨w.heap.size + 2, 0, none⟩ (.slice A1 (xs.length + 1) c1)) := h.push hb (own_mono hk hG) hown hg

set_option maxRecDepth 100000 in
set_option maxHeartbeats 6400000 in
theorem spec_TurnedPath_any (B : Option Addr) (d : Nat) (ps : List Pc) (w : World) (hx : RdP w B ps) (hn : ps.length ≤ 4294967296) (hk : ∀ p ∈ ps, p.k.length ≤ 4294967296) :
    Calls Try.prog 22 #[.agg #[.slice B ps.length d]] w (MadePath w (tuP ps)) := by
  obtain ⟨i0, hi, hz0, hz1, hz2⟩ := info_parts Try.infoPiece
  obtain ⟨j0, hj, jz0, jz1, jz2⟩ := info_parts Try.infoInt
  have p1 : (((w.alloc (.cells #[.slice B ps.length d] 29)).alloc (.cells #[.slice none 0 0] 29)).alloc (.cells #[.slice none 0 0] 29)).heap[w.heap.size]? = some (.cells #[.slice B ps.length d] 29 (0, 0)) :=
    blk_below (below_alloc _ _) (blk_below (below_alloc _ _) (heap_alloc_new w _))
  have p2 : (((w.alloc (.cells #[.slice B ps.length d] 29)).alloc (.cells #[.slice none 0 0] 29)).alloc (.cells #[.slice none 0 0] 29)).heap[w.heap.size + 1]? = some (.cells #[.slice none 0 0] 29 (0, 0)) := by
    have := blk_below (below_alloc _ (.cells #[.slice none 0 0] 29)) (heap_alloc_new (w.alloc (.cells #[.slice B ps.length d] 29)) (.cells #[.slice none 0 0] 29))
    simpa using this
  have p3 : (((w.alloc (.cells #[.slice B ps.length d] 29)).alloc (.cells #[.slice none 0 0] 29)).alloc (.cells #[.slice none 0 0] 29)).heap[w.heap.size + 2]? = some (.cells #[.slice none 0 0] 29 (0, 0)) := by
    have := heap_alloc_new ((w.alloc (.cells #[.slice B ps.length d] 29)).alloc (.cells #[.slice none 0 0] 29)) (.cells #[.slice none 0 0] 29)
    simpa using this
  have B3 : Below w.heap.size w (((w.alloc (.cells #[.slice B ps.length d] 29)).alloc (.cells #[.slice none 0 0] 29)).alloc (.cells #[.slice none 0 0] 29)) := below_step (below_step (below_alloc _ _) (below_alloc _ _)) (below_alloc _ _)
  obtain ⟨W, hW⟩ : ∃ W, ((w.alloc (.cells #[.slice B ps.length d] 29)).alloc (.cells #[.slice none 0 0] 29)).alloc (.cells #[.slice none 0 0] 29) = W := ⟨_, rfl⟩
  rw [hW] at p1 p2 p3 B3
  have hp0 : PB w B ps.length d none 0 [] W := ⟨⟨World.ownsRow_nil _ _ _ _, by simp, List.Pairwise.nil⟩, p1, p2, p3, B3⟩
  have HX := Lib.hid hx
  have HX1 := Lib.hid (hx.keep B3)
  have HK := Lib.hid hk
  have HP0 := Lib.hid hp0
  have HW := Lib.hid hW
  clear p1 p2 p3 B3 hx hk hp0 hW
  go_enter Try.func22, Try.ntmps22
  go_wp2_with fail
  rw [HW.out]
  refine (spec_PathOk_any B d ps W HX1.out hn HK.out).mono ?_
  rintro e w3 ⟨rfl, k3⟩
  have HP3 := Lib.hid (HP0.out.keep k3)
  obtain ⟨b, hb⟩ : ∃ b, PP (PaOk ps) = b := ⟨_, rfl⟩
  have HTU := Lib.hid (tuP_tuX ps)
  rw [hb] at HTU ⊢
  clear hb k3
  go_wp2
  go_loopw [5] (fun i wr => ∃ (k : Nat) (xs : List PcX) (A : Option Addr) (c : Nat), k ≤ ps.length ∧ i = .int .i64 k ∧ xs.length ≤ k ∧ k ≤ xs.length ∧ Hid (xs.map PcX.p = (ps.take k).map (tuX b)) ∧ PB w B ps.length d A c xs wr) (fun i _ => ps.length - (intOf i).toNat)
  case atStart => exact ⟨0, [], none, 0, Nat.zero_le _, rfl, Nat.le_refl _, Nat.le_refl _, Lib.hid rfl, HP3.out⟩
  case round =>
    obtain ⟨k, xs, A, c, hk, rfl, hl1, hl2, HM, hpb⟩ := hrel
    have a0 := blk_cell (o := 0) hpb.arg rfl
    by_cases hlt : k < ps.length
    · obtain ⟨ba, o, Kk, ck, rfl, c0, c1, c2, hrk⟩ := (HX.out.keep hpb.bel).at_ hlt
      have hkl := HK.out ps[k] (List.getElem_mem hlt)
      obtain ⟨x, hxx⟩ : ∃ x, ps[k] = x := ⟨_, rfl⟩
      rw [hxx] at c0 c1 c2 hkl hrk
      have EX := Lib.hid hxx
      have k0 : (0 : Int) ≤ (k : Int) := by omega
      have k1 : (k : Int) < (ps.length : Int) := by omega
      obtain ⟨L, hL⟩ : ∃ L, (tuX b x).k = L := ⟨_, rfl⟩
      have hLl : L.length = x.k.length := by rw [← hL, tuX_len]
      have HLL := Lib.hid hLl
      have HL := Lib.hid hL
      obtain ⟨op, l, ks⟩ := x
      simp only at c0 c1 c2 hkl hrk HLL
      -- the piece's own box, and an empty row
      have ka := below_alloc wr (.cells #[.int .i64 op, .int .u8 l, .slice Kk ks.length ck] 79)
      have y := heap_alloc_new wr (.cells #[.int .i64 op, .int .u8 l, .slice Kk ks.length ck] 79)
      have rk2 := RdI.below hrk ka
      obtain ⟨W1, hW1⟩ : ∃ W, wr.alloc (.cells #[.int .i64 op, .int .u8 l, .slice Kk ks.length ck] 79) = W := ⟨_, rfl⟩
      rw [hW1] at ka y rk2
      have hgl := blk_lt y
      have hsz1 : wr.heap.size + 1 = W1.heap.size := by rw [← hW1]; simp
      have ke : Below W1.heap.size W1 (W1.alloc (.cells #[] 3)) := below_alloc _ _
      have hown0 : (W1.alloc (.cells #[] 3)).ownsRow W1.heap.size 3 1 (.slice (some ⟨W1.heap.size, 0, none⟩) 0 0) 0 [] := World.ownsRow_made W1 #[] 0 (Nat.le_refl _) (by unfold maxLen; omega) rfl
      have HPB := Lib.hid hpb
      have HKA := Lib.hid ka
      have Y := Lib.hid y
      have RK := Lib.hid rk2
      have HO0 := Lib.hid hown0
      have HKE := Lib.hid ke
      have HSZ := Lib.hid hsz1
      have HW1 := Lib.hid hW1
      have x0 := blk_cell (o := 0) y rfl
      have x2 := blk_cell (o := 2) y rfl
      clear hxx hL hLl hpb hrk ka y rk2 ke hown0 hsz1 hW1
      go_wp2_with fail
      rw [HW1.out, HSZ.out]
      obtain ⟨gp, hgp⟩ : ∃ g, wr.heap.size = g := ⟨_, rfl⟩
      rw [hgp] at hgl x0 x2 Y ⊢
      have HGP := Lib.hid hgp
      clear hgp c0 c1 c2 a0
      obtain ⟨wo, hwo⟩ : ∃ wo : World, wo = wr := ⟨_, rfl⟩
      rw [← hwo] at HPB HKA HSZ HGP
      clear hwo
      go_loopw [7, 8] (fun v j wi => ∃ (m : Nat), m ≤ ks.length ∧ j = .int .i64 m ∧ wi.ownsRow W1.heap.size 3 1 v m ((L.take m).map (Value.int .i64)) ∧ Below W1.heap.size W1 wi) (fun _ j _ => ks.length - (intOf j).toNat)
      case atStart => exact ⟨0, Nat.zero_le _, rfl, by simpa using HO0.out, HKE.out⟩
      case round =>
        obtain ⟨m, hm, rfl, hown, hbi⟩ := hrel
        have x0' := held_step hbi x0
        have x2' := held_step hbi x2
        by_cases hmt : m < ks.length
        · have HOW := Lib.hid hown
          have HBI := Lib.hid hbi
          have m0 : (0 : Int) ≤ (m : Int) := by omega
          have m1 : (m : Int) < (ks.length : Int) := by omega
          have hwl := hbi.size
          have hmL : m < L.length := by rw [HLL.out]; exact hmt
          by_cases hb2 : b = true ∧ op = 2
          · obtain ⟨rfl, rfl⟩ := hb2
            have hLv : L = ks.reverse := by rw [← HL.out]; simp [tuX]
            obtain ⟨q, hq⟩ : ∃ q : Nat, ks.length - 1 - m = q := ⟨_, rfl⟩
            have hq1 : (ks.length : Int) - 1 - (m : Int) = (q : Int) := by omega
            have hqlt : q < ks.length := by omega
            obtain ⟨ad, rfl, hc⟩ := (RdI.below RK.out hbi).at_ hqlt
            have q0 : (0 : Int) ≤ (q : Int) := by omega
            have q1 : (q : Int) < (ks.length : Int) := by omega
            obtain ⟨z, hz⟩ : ∃ z, ks.getD q 0 = z := ⟨_, rfl⟩
            rw [hz] at hc
            have HZ : Hid (L[m] = z) := by
              show _ = _
              simp only [hLv]
              rw [List.getElem_reverse, ← hz]
              simp [List.getD, hq, hqlt]
            clear hown hbi hLv hq hz
            go_wp2_with (first
              | (at_builtin
                 refine wpList_append_any _ rfl (.tmp 38) (.tmp 49) 70 rfl W1.heap.size 3 j0 _ 1 8 Try.underlying70 hj jz0 jz1 jz2 rfl (by decide) _ m _ rfl (own_below HOW.out (below_alloc _ _)) (some ⟨wr.heap.size, 0, none⟩) 1 1 [.int .i64 z] rfl (Rd.new wr #[.int .i64 z] 3 rfl rfl) (by intro u hu; simp at hu; subst hu; rfl) (by unfold maxLen; omega) (by omega) (by simp; omega) ?_
                 intro v1 w5 hown5 hg5 _))
            have hb5 : Below W1.heap.size W1 w5 := (HBI.out.alloc hwl _).grown hg5 (by simp; omega) (fun r hr => by have := (HOW.out.lt r hr).1; omega)
            have HO5 := Lib.hid hown5
            have HB5 := Lib.hid hb5
            clear hown5 hg5 hb5
            go_roundw
            case rel =>
              refine ⟨m + 1, by omega, by go_num, ?_, HB5.out⟩
              rw [List.take_succ_eq_append_getElem hmL, List.map_append, HZ.out]
              exact HO5.out
            case measure => simp [intOf]; omega
          · have hLv : L = ks := by rw [← HL.out]; simp only [tuX]; rw [if_neg hb2]
            obtain ⟨ad, rfl, hc⟩ := (RdI.below RK.out hbi).at_ hmt
            obtain ⟨z, hz⟩ : ∃ z, ks.getD m 0 = z := ⟨_, rfl⟩
            rw [hz] at hc
            have HZ : Hid (L[m] = z) := by
              show _ = _
              simp only [hLv]
              rw [← hz]
              simp [List.getD, hmt]
            have hcase : b = false ∨ (b = true ∧ (op == 2) = false ∧ decide (op = 2) = false) := by
              cases b with
              | false => exact .inl rfl
              | true =>
                have : op ≠ 2 := fun e => hb2 ⟨rfl, e⟩
                exact .inr ⟨rfl, by rw [beq_eq_false_iff_ne]; exact this, decide_eq_false this⟩
            clear hown hbi hLv hz hb2
            rcases hcase with rfl | ⟨rfl, o1, o2⟩
            all_goals
              go_wp2_with (first
                | (at_builtin
                   refine wpList_append_any _ rfl (.tmp 51) (.tmp 57) 70 rfl W1.heap.size 3 j0 _ 1 8 Try.underlying70 hj jz0 jz1 jz2 rfl (by decide) _ m _ rfl (own_below HOW.out (below_alloc _ _)) (some ⟨wr.heap.size, 0, none⟩) 1 1 [.int .i64 z] rfl (Rd.new wr #[.int .i64 z] 3 rfl rfl) (by intro u hu; simp at hu; subst hu; rfl) (by unfold maxLen; omega) (by omega) (by simp; omega) ?_
                   intro v1 w5 hown5 hg5 _))
              have hb5 : Below W1.heap.size W1 w5 := (HBI.out.alloc hwl _).grown hg5 (by simp; omega) (fun r hr => by have := (HOW.out.lt r hr).1; omega)
              have HO5 := Lib.hid hown5
              have HB5 := Lib.hid hb5
              clear hown5 hg5 hb5
              go_roundw
              case rel =>
                refine ⟨m + 1, by omega, by go_num, ?_, HB5.out⟩
                rw [List.take_succ_eq_append_getElem hmL, List.map_append, HZ.out]
                exact HO5.out
              case measure => simp [intOf]; omega
        · obtain rfl : m = ks.length := by omega
          obtain ⟨K1, d1, rfl, _, _⟩ := own_slice hown
          have hpb2 := (HPB.out.keep HKA.out).keep hbi
          have x1' := held_step hbi (blk_cell (o := 1) Y.out rfl)
          have hL2 : (L.take ks.length) = L := List.take_of_length_le (by rw [HLL.out]; exact Nat.le_refl _)
          rw [hL2] at hown
          have HPB2 := Lib.hid hpb2
          have HO := Lib.hid hown
          have HBI := Lib.hid hbi
          have z0 := blk_cell (o := 0) hpb2.box rfl
          have hsz := hpb2.sz
          have e0 := hbi.size
          have HB1 : Hid (Below wo.heap.size wo wr) := Lib.hid (below_step HKA.out hbi)
          have hG : wo.heap.size ≤ W1.heap.size := by have := HSZ.out; omega
          have HG := Lib.hid hG
          clear hown hbi hpb2 hL2 hG
          go_wp2_with (first
            | (at_builtin
               refine wpList_append_any _ rfl (.tmp 60) (.tmp 67) 27 rfl (w.heap.size + 3) 79 i0 _ 3 40 Try.underlying27 hi hz0 hz1 hz2 rfl (by decide) (.slice A xs.length c) xs.length (pxCells xs) rfl (own_below HPB2.out.own.row (below_alloc _ _)) (some ⟨wr.heap.size, 0, none⟩) 1 1 [.int .i64 op, .int .u8 l, .slice K1 ks.length d1] rfl (rd_new3p wr _ _ _ _) (by intro u hu; simp at hu; rcases hu with rfl | rfl | rfl <;> rfl) (by unfold maxLen; omega) (by omega) (by simp; omega) ?_
               intro v1 w6 hown6 hg6 _
               obtain ⟨A1, c1', rfl, _, _⟩ := own_slice hown6
               have bx6 := (hg6.block _ (by simp; omega) (fun e => by have := (HPB2.out.own.row.lt _ e.symm).1; omega)).trans (blk_below (below_alloc wr _) HPB2.out.box)
               have z6 := blk_cell (o := 0) bx6 rfl
               have f6 : w6.frozen? ⟨w.heap.size + 2, 0, none⟩ = false := frozen_of_row w6 _ 0 _ _ bx6
               have HF := Lib.hid (HPB.out.pushed (p := ⟨op, l, L⟩) HB1.out HG.out (by show wr.ownsRow _ _ _ (.slice K1 L.length d1) L.length _; rw [HLL.out]; exact HO.out) (by show w6.ownsRow _ _ _ _ _ (_ ++ [_, _, .slice K1 L.length d1]); rw [HLL.out]; exact hown6) hg6)
               clear hown6 hg6 bx6))
          go_roundw
          case rel =>
            refine ⟨k + 1, _, A1, c1', by omega, by go_num, ?_, ?_, ?_, by simpa using HF.out⟩
            · simp; omega
            · simp; omega
            · show _ = _
              rw [List.map_append, HM.out, List.take_succ_eq_append_getElem hlt, List.map_append, EX.out]
              have h1 := tuX_op b ⟨op, l, ks⟩
              have h2 := HL.out
              congr 1
              simp only [List.map_cons, List.map_nil]
              rw [← h2]
              obtain ⟨h3, h4⟩ := h1
              cases hX : tuX b ⟨op, l, ks⟩ with
              | mk a1 a2 a3 =>
                rw [hX] at h3 h4
                simp only at h3 h4
                subst h3 h4
                rfl
          case measure => simp [intOf]; omega
    · obtain rfl : k = ps.length := by omega
      have hM := HM.out
      rw [List.take_of_length_le (Nat.le_refl _)] at hM
      have HMade := Lib.hid (hM ▸ hpb.made)
      have b0 := blk_cell (o := 0) hpb.box rfl
      have o0 := blk_cell (o := 0) hpb.out rfl
      have f1 : wr.frozen? ⟨w.heap.size + 1, 0, none⟩ = false := frozen_of_row wr _ 0 _ _ hpb.out
      clear hpb hM
      go_wp2
      refine bodyPost_ret (v := .agg #[.slice A xs.length c]) (by simp [results, Try.results22, go_sem, o0]) rfl ?_
      rw [HTU.out]
      exact HMade.out
end Go.Proofs.Ytdmheaommmnhoaa
