/- impl.statesAt: the states in which each vertex is reached. Conditions: the edges and the arcs in their range. -/
import Derived.Test.YtgpjgigmlgoiiaaRch
import Derived.Test.YtgpjgigmlgoiiaaBelowQ
namespace Go.Proofs.Ytgpjgigmlgoiiaa
open Go.RowKit

theorem rowF_src {n src : Nat} (hs : src < n) (ges arcs : List Ed) : StI n ges arcs src ((rowF n (fun _ => 0)).set src 1) := by
  have hgd := fun j => gd_set (rowF n (fun _ => 0)) src j 1 (by rw [rowF_len]; exact hs)
  have h0 : ∀ v, (rowF n (fun _ => 0)).getD v 0 = 0 := fun v => by
    by_cases hv : v < n
    · rw [rowF_at hv]
    · rw [gd_far (by rw [rowF_len]; omega)]
  refine ⟨by simp [rowF_len], fun v => ?_, ?_, fun v s hv hb => ?_⟩
  · rw [hgd]; split
    · omega
    · rw [h0]; omega
  · unfold RB; rw [hgd, if_pos rfl]; rfl
  · unfold RB at hb
    rw [hgd] at hb
    split at hb
    · rename_i e; subst e
      have : s = 0 := by
        rcases Nat.eq_zero_or_pos s with h | h
        · exact h
        · rw [show (1 : Nat) = 2 ^ 0 by rfl, Nat.testBit_two_pow] at hb
          have : 0 = s := by simpa using hb
          omega
      subst this
      exact .base
    · rw [h0] at hb; simp at hb

def flagN : Value → Nat
  | .bool true => 1
  | _ => 0

set_option maxRecDepth 100000 in
set_option maxHeartbeats 6400000 in
theorem statesAt_any (n src : Nat) (Ag A B : Option Addr) (cg c d : Nat) (m : Int) (es arcs : List Ed) (bs : List Bool) (w : World) (hn : n ≤ 12) (hs : src < n) (he : RdE w Ag es) (hel : es.length ≤ 1048576) (hes : Rng n es) (hx : RdE w A arcs) (hal : arcs.length ≤ 4294967296) (hsm : ∀ x ∈ arcs, Sm x) (hlb : ∀ e ∈ es, 0 ≤ e.l ∧ e.l ≤ 255) :
    Calls Try.prog 64 #[.agg #[.int .i64 n, .slice Ag es.length cg], .agg #[.int .i64 m, .slice A arcs.length c, .slice B bs.length d], .int .i64 src] w
      (fun e w' => ∃ A1 c1 rs, e = .returned (.slice A1 n c1) ∧ w'.ownsRow w.heap.size 80 1 (.slice A1 n c1) n (u32s rs) ∧ rs.length = n ∧ (∀ v, rs.getD v 0 < 16777216) ∧ (∀ v s, v < n → (RB rs v s ↔ Rch es arcs src v s)) ∧ Below w.heap.size w w') := by
  obtain ⟨j0, hj, hy0, hy1, hy2⟩ := info_parts Try.infoU32
  have hz := made_zero n
  have HLB := Lib.hid hlb
  have HES := Lib.hid hes
  have HSM := Lib.hid hsm
  have ka := below_alloc w (.cells #[.int .i64 n, .slice Ag es.length cg] 45)
  have p0 := heap_alloc_new w (.cells #[.int .i64 n, .slice Ag es.length cg] 45)
  obtain ⟨W1, hW1⟩ : ∃ W, w.alloc (.cells #[.int .i64 n, .slice Ag es.length cg] 45) = W := ⟨_, rfl⟩
  obtain ⟨g0, hg0⟩ : ∃ g, w.heap.size = g := ⟨_, rfl⟩
  rw [hW1] at p0 ka
  rw [hg0] at p0
  have kb := below_alloc W1 (.cells #[.int .i64 m, .slice A arcs.length c, .slice B bs.length d] 29)
  have p1 := heap_alloc_new W1 (.cells #[.int .i64 m, .slice A arcs.length c, .slice B bs.length d] 29)
  have p02 := blk_below kb p0
  have hb2 := below_step ka kb
  have he2 := (he.below ka).below kb
  have hx2 := (hx.below ka).below kb
  obtain ⟨W2, hW2⟩ : ∃ W, W1.alloc (.cells #[.int .i64 m, .slice A arcs.length c, .slice B bs.length d] 29) = W := ⟨_, rfl⟩
  obtain ⟨g1, hg1⟩ : ∃ g, W1.heap.size = g := ⟨_, rfl⟩
  rw [hW2] at p1 p02 hb2 he2 hx2
  rw [hg1] at p1
  have P0 := Lib.hid p02
  have P1 := Lib.hid p1
  have HB2 := Lib.hid hb2
  have HE := Lib.hid he2
  have HX := Lib.hid hx2
  have b00 := blk_cell (o := 0) p02 rfl
  obtain ⟨g, hg⟩ : ∃ g, W2.heap.size = g := ⟨_, rfl⟩
  have EG := Lib.hid hg
  have S0 := Lib.hid (rowF_src hs es arcs)
  have hs0 : (0 : Int) ≤ (src : Int) := by omega
  have hs1 : (src : Int) < (n : Int) := by omega
  clear he hx hes hsm hlb ka kb p0 p1 p02 hb2 he2 hx2
  go_enter Try.func64, Try.ntmps64
  go_wp2_with (first
    | (at_make
       refine wpList_make_full _ rfl _ _ 81 rfl g 80 j0 (.int .u32 0) 1 Try.underlying81 hj hy0 hy1 .i64 .i64 (n : Int) (n : Int) n rfl rfl rfl rfl (by rw [hy2]; omega) (by unfold maxLen; omega) (by omega) ?_
       intro w3 own3 gr3
       rw [Nat.mul_one] at own3
       have own3 : w3.ownsRow g 80 1 (.slice (some ⟨g, 0, none⟩) n n) n (u32s (rowF n (fun _ => 0))) := by rw [← hz, ← EG.out]; rw [← EG.out] at own3; exact own3
       have k3 := (Below.refl W2.heap.size W2).grown gr3 (Nat.le_refl _) (fun g hg => by cases hg)
       have hco := own3.cellAt src (by omega)
       rw [u32s_at (by rw [rowF_len]; exact hs)] at hco
       have hfo := own3.frozenAt src
       have hst := own3.stored src (.int .u32 ((1 : Nat) : Int))
       rw [u32s_set] at hst
       have O4 := Lib.hid hst.1
       have K4 := Lib.hid (k3.grown hst.2 k3.size (fun r hr => by cases hr; exact Nat.le_of_eq EG.out))
       clear hst own3 gr3 k3))
  clear hW1 hW2 hg0 hg1 hg b00
  go_loopw [8] (fun a wr => ∃ (rs : List Nat) (b : Bool), a = .bool b ∧ Hid (StI n es arcs src rs) ∧ (b = false → Hid (ClTo es arcs rs es.length)) ∧ wr.ownsRow g 80 1 (.slice (some ⟨g, 0, none⟩) n n) n (u32s rs) ∧ Below W2.heap.size W2 wr) (fun a wr => 2 * msrW n g wr + flagN a)
  case atStart => exact ⟨_, true, rfl, S0, (fun h => by cases h), by simpa using O4.out, by simpa using K4.out⟩
  case round =>
    clear O4 K4 hco hfo
    obtain ⟨rs0, b, rfl, HI0, hcl, hown, hb⟩ := hrel
    obtain ⟨wo, rfl⟩ : ∃ wo : World, wo = wr := ⟨_, rfl⟩
    cases b
    · have HC := hcl rfl
      have HO := Lib.hid hown
      have HB := Lib.hid hb
      clear hown hb hcl
      go_wp2
      go_ret
      refine ⟨_, _, rs0, rfl, own_mono HO.out (by have := HB2.out.size; have := EG.out; omega), HI0.out.len, HI0.out.lo, fun v s hv => HI0.out.done HSM.out HC.out v s hv, below_step HB2.out HB.out⟩
    · have b01 := blk_cell (o := 1) (blk_below hb P0.out) rfl
      have HO := Lib.hid hown
      have HB := Lib.hid hb
      have HMW := Lib.hid (msrW_eq HI0.out.len hown)
      clear hown hb hcl
      go_wp2_with fail
      go_loopw [8, 22] (fun a i wr => ∃ (k : Nat) (rs : List Nat) (b : Bool), k ≤ es.length ∧ i = .int .i64 k ∧ a = .bool b ∧ Hid (StI n es arcs src rs) ∧ Hid (b = false → rs = rs0 ∧ ClTo es arcs rs0 k) ∧ Hid (b = true → msr n rs < msr n rs0) ∧ wr.ownsRow g 80 1 (.slice (some ⟨g, 0, none⟩) n n) n (u32s rs) ∧ Below W2.heap.size W2 wr) (fun _ i _ => es.length - (intOf i).toNat)
      case atStart => exact ⟨0, rs0, false, Nat.zero_le _, rfl, rfl, HI0, Lib.hid (fun _ => ⟨rfl, fun e he => by simp at he⟩), Lib.hid (fun h => by cases h), HO.out, HB.out⟩
      case round =>
        clear HO HB b01
        obtain ⟨k, rs, b, hk, rfl, rfl, HI, HF, HT, hown, hb⟩ := hrel
        obtain ⟨wq, rfl⟩ : ∃ wq : World, wq = wr := ⟨_, rfl⟩
        by_cases hlt : k < es.length
        · obtain ⟨be, oe, rfl, y0, y1, y2⟩ := (HE.out.below hb).at_ hlt
          have hr := HES.out _ (List.getElem_mem hlt)
          have hl2 := HLB.out _ (List.getElem_mem hlt)
          have hmem : es[k] ∈ es := List.getElem_mem hlt
          have hnext := fun (h : ClTo es arcs rs k) hc => h.next hlt hc
          obtain ⟨y, hyy⟩ : ∃ y, es[k] = y := ⟨_, rfl⟩
          rw [hyy] at y0 y1 y2 hr hl2 hmem hnext
          obtain ⟨yf, yl, yt⟩ := y
          simp only at y0 y1 y2 hr hl2 hnext
          obtain ⟨⟨hf0, hf1⟩, ht0, ht1⟩ := hr
          obtain ⟨f, rfl⟩ : ∃ f : Nat, yf = f := ⟨yf.toNat, by omega⟩
          obtain ⟨t, rfl⟩ : ∃ t : Nat, yt = t := ⟨yt.toNat, by omega⟩
          simp only [Int.toNat_natCast] at hnext
          have hfn : f < n := by omega
          have htn : t < n := by omega
          have hstep := HI.out.step HSM.out hmem (f := f) (t := t) rfl rfl hfn htn
          simp only at hstep
          have hlof := HI.out.lo f
          have hlot := HI.out.lo t
          have hil := HI.out.len
          have hmlt := moveN_lt (rs.getD f 0) yl HSM.out
          have hms := fun hnew => msr_step (n := n) (rs := rs) (t := t) (T := moveN arcs (rs.getD f 0) yl) hil htn hmlt hnew
          have ka := below_alloc wq (.cells #[.int .i64 f, .int .u8 yl, .int .i64 t] 119)
          have p6 := heap_alloc_new wq (.cells #[.int .i64 f, .int .u8 yl, .int .i64 t] 119)
          have own6 := own_below hown ka
          have hb6 := below_step hb ka
          obtain ⟨g6, hg6⟩ : ∃ g, wq.heap.size = g := ⟨_, rfl⟩
          obtain ⟨W6, hW6⟩ : ∃ W, wq.alloc (.cells #[.int .i64 f, .int .u8 yl, .int .i64 t] 119) = W := ⟨_, rfl⟩
          rw [hW6] at p6 own6 hb6
          rw [hg6] at p6
          have cf := own6.cellAt f (by omega)
          rw [u32s_at (by omega)] at cf
          have ct := own6.cellAt t (by omega)
          rw [u32s_at (by omega)] at ct
          obtain ⟨F, hF⟩ : ∃ F, rs.getD f 0 = F := ⟨_, rfl⟩
          obtain ⟨T, hT⟩ : ∃ T, rs.getD t 0 = T := ⟨_, rfl⟩
          rw [hF] at cf hlof hmlt hstep hms hnext
          rw [hT] at ct hlot hstep hms
          obtain ⟨M, hM⟩ : ∃ M, moveN arcs F yl = M := ⟨_, rfl⟩
          rw [hM] at hmlt hstep hms hnext
          have MV := Lib.hid (fun (p : BelowOf W6) => move_any m A B bs.length c d arcs F yl p.w (HX.out.below (below_step hb6 p.h)) hal HSM.out hlof)
          rw [hM] at MV
          have P6 := Lib.hid p6
          have O6 := Lib.hid own6
          have B6 := Lib.hid hb6
          have k0 : (0 : Int) ≤ (k : Int) := by omega
          have k1 : (k : Int) < (es.length : Int) := by omega
          have f0 : (0 : Int) ≤ (f : Int) := by omega
          have f1 : (f : Int) < (n : Int) := by omega
          have t0 : (0 : Int) ≤ (t : Int) := by omega
          have t1 : (t : Int) < (n : Int) := by omega
          have a0 := blk_cell (o := 0) p6 rfl
          have a1 := blk_cell (o := 1) p6 rfl
          have n0 := blk_cell (o := 0) (blk_below hb6 P1.out) rfl
          have n1 := blk_cell (o := 1) (blk_below hb6 P1.out) rfl
          have n2 := blk_cell (o := 2) (blk_below hb6 P1.out) rfl
          have qa0 := fun p => cellQ a0 p
          have qa1 := fun p => cellQ a1 p
          have qn0 := fun p => cellQ n0 p
          have qn1 := fun p => cellQ n1 p
          have qn2 := fun p => cellQ n2 p
          have qcf := fun p => cellQ cf p
          have HSTEP := Lib.hid hstep
          have HMS := Lib.hid hms
          have HNX := Lib.hid hnext
          have HTT := Lib.hid hT
          have hor := u32_or_nat T M (by omega) (by omega)
          have han := andNot_bits M T (by omega) (by omega)
          have HAN := Lib.hid han
          obtain ⟨an, hanb⟩ : ∃ an, (bits .andNot .u32 (M : Int) (T : Int) != 0) = an := ⟨_, rfl⟩
          rw [hanb] at HAN
          have HANB := Lib.hid hanb
          have HOR := Lib.hid hor
          clear hyy hown hb ka p6 own6 hb6 hF hT hM hstep hms hnext hmem hor han hanb
          go_wp2_with fail
          clear hW6 hg6
          refine wp_region_below (by kernel_rfl) (by kernel_rfl) ?_
          repeat (first | go_big_quiet_step ((go_at_call 47; exact Calls.below_of (MV.out _))) | quiet_step ((go_at_call 47; exact Calls.below_of (MV.out _))))
          refine wpQuiet_nil ?_
          intro w8 hw'
          obtain ⟨⟨w8, kk⟩, hw''⟩ := hw'
          subst hw''
          have O8 := Lib.hid (own_below O6.out kk)
          have B8 := Lib.hid (below_step B6.out kk)
          have a28 := blk_cell (o := 2) (blk_below kk P6.out) rfl
          have ct8 := held_step kk ct
          have fo8 := O8.out.frozenAt t
          clear qa0 qa1 qn0 qn1 qn2 qcf a0 a1 n0 n1 n2 cf ct kk MV
          have hor := HOR.out
          have hanb := HANB.out
          have HS := Lib.hid (O8.out.stored t (.int .u32 ((T ||| M : Nat) : Int)))
          cases an
          · have HCL : Hid (∀ s, M.testBit s = true → RB rs t s) := Lib.hid (fun s hs => by
              unfold RB
              rw [HTT.out]
              cases h2 : T.testBit s with
              | true => rfl
              | false => have h3 := HAN.out.2 ⟨s, hs, h2⟩; cases h3)
            go_wp2
            go_roundw
            case rel =>
              refine ⟨k + 1, rs, b, by omega, by go_num, rfl, HI, Lib.hid (fun h => ?_), HT, O8.out, B8.out⟩
              obtain ⟨h1, h2⟩ := HF.out h
              subst h1
              exact ⟨rfl, HNX.out h2 HCL.out⟩
            case measure => simp [intOf]; omega
          · have HNEW := Lib.hid (HAN.out.1 rfl)
            go_wp2
            go_roundw
            case rel =>
              have h1 := HS.out.1
              have h2 := HS.out.2
              rw [u32s_set] at h1
              refine ⟨k + 1, rs.set t (T ||| M), true, by omega, by go_num, rfl, Lib.hid HSTEP.out, Lib.hid (fun h => by cases h), Lib.hid (fun _ => ?_), h1, B8.out.grown h2 B8.out.size (fun r hr => by cases hr; exact Nat.le_of_eq EG.out)⟩
              have h3 := HMS.out HNEW.out
              cases b with
              | true => have := HT.out rfl; omega
              | false => have := (HF.out rfl).1; subst this; exact h3
            case measure => simp [intOf]; omega
        · obtain rfl : k = es.length := by omega
          have HMW2 := Lib.hid (msrW_eq HI.out.len hown)
          have HO := Lib.hid hown
          have HB := Lib.hid hb
          clear hown hb
          go_wp2
          go_roundw
          case rel => exact ⟨rs, b, rfl, HI, fun h => Lib.hid (by obtain ⟨h1, h2⟩ := HF.out h; subst h1; exact h2), HO.out, HB.out⟩
          case measure =>
            rw [HMW.out, HMW2.out]
            cases b with
            | true => have := HT.out rfl; simp [flagN]; omega
            | false => have := (HF.out rfl).1; subst this; simp [flagN]
end Go.Proofs.Ytgpjgigmlgoiiaa
