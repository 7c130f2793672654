/- spec.l07Reach: the pairs of vertex and state that are come to. Conditions: the edges and the arcs in their range. -/
import Derived.Test.YtgpjgigmlgoiiaaRcP
import Derived.Test.YtgpjgigmlgoiiaaTouch
import Derived.Test.YtgpjgigmlgoiiaaBelowQ
import Derived.Deep.RegionLaw
namespace Go.Proofs.Ytgpjgigmlgoiiaa
open Go.RowKit

theorem addr_add0' (ad : Addr) : ad.add 0 = ad := by
  obtain ⟨b, o, sp⟩ := ad
  unfold Addr.add
  split <;> simp_all

set_option maxRecDepth 100000 in
set_option maxHeartbeats 12800000 in
theorem l07Reach_any (n m src : Nat) (Ag A B : Option Addr) (cg c d : Nat) (es arcs : List Ed) (bs : List Bool) (w : World) (hn : n ≤ 12) (hs : src < n) (hm0 : 0 < m) (hm : m ≤ 24) (he : RdE w Ag es) (hel : es.length ≤ 1048576) (hes : Rng n es) (hx : RdE w A arcs) (hal : arcs.length ≤ 4294967296) (has : Rng m arcs) (hlb : ∀ e ∈ es, 0 ≤ e.l ∧ e.l ≤ 255) :
    Calls Try.prog 61 #[.agg #[.int .i64 n, .slice Ag es.length cg], .agg #[.int .i64 m, .slice A arcs.length c, .slice B bs.length d], .int .i64 src] w
      (fun e w' => ∃ A1 c1 seen, e = .returned (.slice A1 (n * m) c1) ∧ w'.ownsRow w.heap.size 4 1 (.slice A1 (n * m) c1) (n * m) (bls seen) ∧ seen.length = n * m ∧ (∀ v s, v < n → s < m → (seen.getD (v * m + s) false = true ↔ Rch es arcs src v s)) ∧ Below w.heap.size w w') := by
  obtain ⟨j0, hj, hy0, hy1, hy2⟩ := info_parts Try.infoBool
  obtain ⟨i0, hi, hz0', hz1, hz2⟩ := info_parts Try.infoInt
  have hmul : n * m ≤ 12 * 24 := Nat.mul_le_mul hn hm
  have hno := bls_no (n * m)
  have wnm : IntKind.i64.wrap ((n : Int) * (m : Int)) = ((n * m : Nat) : Int) := by rw [← Int.natCast_mul]; exact IntWalk.i64_in _ (by omega)
  have HWR := Lib.hid (fun v (hv : v < n) => show IntKind.i64.wrap ((v : Int) * (m : Int)) = ((v * m : Nat) : Int) by
    rw [← Int.natCast_mul]
    have : v * m ≤ 12 * 24 := Nat.mul_le_mul (by omega) hm
    exact IntWalk.i64_in _ (by omega))
  have HIJ := Lib.hid (fun v s (hv : v < n) (hs : s < m) => ij_ltm hv hs)
  have HST := Lib.hid (RcI.start (ges := es) (arcs := arcs) hs hm0)
  have hsm := HIJ.out src 0 hs hm0
  rw [Nat.add_zero] at hsm
  have wsm := HWR.out src hs
  obtain ⟨N, hN⟩ : ∃ N, n * m = N := ⟨_, rfl⟩
  obtain ⟨qs, hqs⟩ : ∃ q, src * m = q := ⟨_, rfl⟩
  have HN := Lib.hid hN
  rw [hN] at hmul hno wnm HST hsm ⊢
  rw [hqs] at HST hsm wsm
  have HLB := Lib.hid hlb
  have HES := Lib.hid hes
  have HAS := Lib.hid has
  have ka := below_alloc w (.cells #[.int .i64 n, .slice Ag es.length cg] 45)
  have p0 := heap_alloc_new w (.cells #[.int .i64 n, .slice Ag es.length cg] 45)
  obtain ⟨W1, hW1⟩ : ∃ W, w.alloc (.cells #[.int .i64 n, .slice Ag es.length cg] 45) = W := ⟨_, rfl⟩
  obtain ⟨g0, hg0⟩ : ∃ g, w.heap.size = g := ⟨_, rfl⟩
  rw [hW1] at p0 ka
  rw [hg0] at p0
  have kb := below_alloc W1 (.cells #[.int .i64 m, .slice A arcs.length c, .slice B bs.length d] 29)
  have p1 := heap_alloc_new W1 (.cells #[.int .i64 m, .slice A arcs.length c, .slice B bs.length d] 29)
  have p02 := blk_below kb p0
  have hb2 := below_step ka kb
  have he2 := (he.below ka).below kb
  have hx2 := (hx.below ka).below kb
  obtain ⟨W2, hW2⟩ : ∃ W, W1.alloc (.cells #[.int .i64 m, .slice A arcs.length c, .slice B bs.length d] 29) = W := ⟨_, rfl⟩
  obtain ⟨g1, hg1⟩ : ∃ g, W1.heap.size = g := ⟨_, rfl⟩
  rw [hW2] at p1 p02 hb2 he2 hx2
  rw [hg1] at p1
  have P0 := Lib.hid p02
  have P1 := Lib.hid p1
  have HB2 := Lib.hid hb2
  have HE := Lib.hid he2
  have HX := Lib.hid hx2
  have b00 := blk_cell (o := 0) p02 rfl
  have b10 := blk_cell (o := 0) p1 rfl
  obtain ⟨g, hg⟩ : ∃ g, W2.heap.size = g := ⟨_, rfl⟩
  have EG := Lib.hid hg
  have q0 : (0 : Int) ≤ (qs : Int) := by omega
  have q1 : (qs : Int) < (N : Int) := by omega
  clear he hx hes has hlb ka kb p0 p1 p02 hb2 he2 hx2 hN hqs
  go_enter Try.func61, Try.ntmps61
  go_wp2_with (first
    | (at_make
       refine wpList_make_full _ rfl _ _ 23 rfl g 4 j0 (.bool false) 1 Try.underlying23 hj hy0 hy1 .i64 .i64 (N : Int) (N : Int) N rfl rfl rfl rfl (by rw [hy2]; omega) (by unfold maxLen; omega) (by omega) ?_
       intro w3 own3 gr3
       rw [Nat.mul_one] at own3
       have own3 : w3.ownsRow g 4 1 (.slice (some ⟨g, 0, none⟩) N N) N (bls (List.replicate N false)) := by rw [← hno, ← EG.out]; rw [← EG.out] at own3; exact own3
       have k3 := (Below.refl W2.heap.size W2).grown gr3 (Nat.le_refl _) (fun g hg => by cases hg)
       have b13 := blk_cell (o := 0) (blk_below k3 P1.out) rfl
       have p4 := heap_alloc_new w3 (.cells #[.int .i64 qs] 3)
       have k4 := below_alloc w3 (.cells #[.int .i64 qs] 3)
       have own4 := own_below own3 k4
       have lown4 : (w3.alloc (.cells #[.int .i64 qs] 3)).ownsRow g 3 1 (.slice (some ⟨w3.heap.size, 0, none⟩) 1 1) 1 [.int .i64 qs] := ⟨rfl, .inr ⟨w3.heap.size, 1, #[.int .i64 qs], rfl, by have := k3.size; have := EG.out; omega, p4, Nat.le_refl _, by unfold maxLen; omega, rfl, rfl⟩⟩
       have k24 := below_step k3 k4
       have hz34 : w3.heap.size < (w3.alloc (.cells #[.int .i64 qs] 3)).heap.size := by simp
       obtain ⟨g3, hg3⟩ : ∃ g, w3.heap.size = g := ⟨_, rfl⟩
       obtain ⟨W4, hW4⟩ : ∃ W, w3.alloc (.cells #[.int .i64 qs] 3) = W := ⟨_, rfl⟩
       rw [hW4] at own4 lown4 k24
       rw [hg3] at lown4
       have b14 := blk_cell (o := 0) (blk_below k24 P1.out) rfl
       have hco := own4.cellAt qs (by omega)
       rw [bls_at (by simpa using hsm)] at hco
       have hfo := own4.frozenAt qs
       have hst := own4.stored qs (.bool true)
       rw [bls_set] at hst
       have O5 := Lib.hid hst.1
       have L5 := Lib.hid (own_set_row lown4 own4 (by decide) qs (.bool true))
       have K5 := Lib.hid (k24.grown hst.2 k24.size (fun r hr => by cases hr; exact Nat.le_of_eq EG.out))
       clear hst own3 own4 lown4 gr3 k3 k4 k24 p4 hz34))
  clear hW1 hW2 hg0 hg1 hg b00 b10 hno wnm
  go_loopw [8] (fun v wr => ∃ (seen : List Bool) (ls : List Int), Hid (2 * msB N seen + ls.length ≤ 2 * N + 1) ∧ Hid (RcI n m es arcs src ls (fun _ => False) seen) ∧ wr.ownsRow g 4 1 (.slice (some ⟨g, 0, none⟩) N N) N (bls seen) ∧ wr.ownsRow g 3 1 v ls.length (ls.map (Value.int .i64)) ∧ Below W2.heap.size W2 wr) (fun v wr => 2 * msBW N g wr + lenV v)
  case atStart => exact ⟨_, [(qs : Int)], Lib.hid (by have := msB_le N ((List.replicate N false).set qs true); simp; omega), HST, O5.out, by simpa using L5.out, K5.out⟩
  case round =>
    clear O5 L5 K5 hco hfo b13 b14
    obtain ⟨seen, ls, HMS, HI, hown, hlow, hb⟩ := hrel
    have hll : ls.length ≤ 2 * N + 1 := by have := HMS.out; omega
    have HMW := Lib.hid (msBW_eq (by rw [HI.out.len, HN.out]) hown)
    obtain ⟨wo, rfl⟩ : ∃ wo : World, wo = wr := ⟨_, rfl⟩
    have HO := Lib.hid hown
    have HL := Lib.hid hlow
    have HB := Lib.hid hb
    obtain ⟨Al, cl, rfl, hcl1, hcl2⟩ := own_slice hlow
    have b00 := blk_cell (o := 0) (blk_below hb P0.out) rfl
    have b10 := blk_cell (o := 0) (blk_below hb P1.out) rfl
    cases ls with
    | nil =>
      go_wp2
      go_ret
      refine ⟨_, _, seen, rfl, own_mono HO.out (by have := HB2.out.size; have := EG.out; omega), by rw [HI.out.len, HN.out], fun v s hv hs => HI.out.done HES.out HAS.out v s hv hs, below_step HB2.out HB.out⟩
    | cons z ls =>
      obtain ⟨ad, rfl, z0⟩ := RdI.at_ (show RdI wo Al (z :: ls).length (z :: ls) from Rd.of_own hlow) (show 0 < (z :: ls).length by simp)
      rw [addr_add0'] at z0
      obtain ⟨bl, ol, sp⟩ := ad
      have hsp : sp = none := by simpa using World.cell?_spot z0
      subst hsp
      have hz : (z :: ls).getD 0 0 = z := rfl
      rw [hz] at z0
      obtain ⟨v0, s0, hv0, hs0, hzq, hseen⟩ := HI.out.mem z (by simp)
      obtain ⟨q, hq⟩ : ∃ q, v0 * m + s0 = q := ⟨_, rfl⟩
      rw [hq] at hzq hseen
      subst hzq
      have l0 : (0 : Int) < ((ls.length + 1 : Nat) : Int) := by omega
      have l00 : 0 < ls.length + 1 := by omega
      have HQ := Lib.hid hq
      have mne : m ≠ 0 := by omega
      have hqd : q / m = v0 := by rw [← hq, Nat.mul_comm, Nat.mul_add_div (by omega), Nat.div_eq_of_lt hs0]; omega
      have hqm : q % m = s0 := by rw [← hq, Nat.mul_comm, Nat.mul_add_mod, Nat.mod_eq_of_lt hs0]
      have wmod : (q : Int) % (m : Int) = (s0 : Int) := by rw [← hqm]; rfl
      have wdiv : IntKind.i64.wrap ((q : Int) / (m : Int)) = (v0 : Int) := by rw [show (q : Int) / (m : Int) = ((q / m : Nat) : Int) from rfl, hqd]; exact IntWalk.i64_in _ (by omega)
      clear hown hlow hb hq hz hqd hqm
      have cz0 := fun p => cellQ z0 p
      have cb10 := fun p => cellQ b10 p
      go_wp2_with fail
      refine wp_region_below (by kernel_rfl) (by kernel_rfl) ?_
      repeat (first | go_big_quiet_step (fail) | quiet_step (fail))
      refine wpQuiet_nil ?_
      intro w5 hw'
      obtain ⟨⟨w5, kk⟩, hw''⟩ := hw'
      subst hw''
      have z05 := held_step kk z0
      have b105 := held_step kk b10
      have O5 := Lib.hid (own_below HO.out kk)
      have L5 := Lib.hid (own_below HL.out kk)
      have K5 := Lib.hid (below_step HB.out kk)
      clear cz0 cb10 kk z0 b10 b00
      have cz0 := fun p => cellQ z05 p
      have cb10 := fun p => cellQ b105 p
      go_wp2_with fail
      refine wp_region_below (by kernel_rfl) (by kernel_rfl) ?_
      repeat (first | go_big_quiet_step (fail) | quiet_step (fail))
      refine wpQuiet_nil ?_
      intro w6 hw'
      obtain ⟨⟨w6, kk⟩, hw''⟩ := hw'
      subst hw''
      have O6 := Lib.hid (own_below O5.out kk)
      have L6 := Lib.hid (own_below L5.out kk)
      have K6 := Lib.hid (below_step K5.out kk)
      have HWM := Lib.hid wmod
      clear cz0 cb10 kk z05 b105 O5 L5 K5 wdiv wmod
      have hl1 : ls.length + 1 ≤ cl := by simpa using hcl1
      have wmod2 : (q : Int) % (m : Int) = (s0 : Int) := HWM.out
      rw [wmod2]
      clear wmod2
      have TL : Hid (∃ ad' cl' : _, (cl = 1 → ad' = ⟨bl, ol, none⟩ ∧ cl' = 0) ∧ (cl ≠ 1 → ad' = ⟨bl, ol + 1, none⟩ ∧ cl' = cl - 1) ∧ Rd w6 1 (some ad') ls.length (ls.map (Value.int .i64))) := Lib.hid (by
        have h := Rd.of_own L6.out
        by_cases hc : cl = 1
        · refine ⟨⟨bl, ol, none⟩, 0, fun _ => ⟨rfl, rfl⟩, fun h => absurd hc h, by simp, fun h => by omega⟩
        · refine ⟨⟨bl, ol + 1, none⟩, cl - 1, fun h => absurd h hc, fun _ => ⟨rfl, rfl⟩, by simp, fun hp => ⟨_, rfl, fun j u hu => ?_⟩⟩
          obtain ⟨ad3, e, hcell⟩ := h.2 (by simp)
          injection e with e
          subst e
          have := hcell (j + 1) u (by simpa using hu)
          have e2 : (⟨bl, ol + 1, none⟩ : Addr).add j = (⟨bl, ol, none⟩ : Addr).add (j + 1) := by
            unfold Addr.add
            split <;> split <;> simp_all <;> omega
          rw [e2]
          exact this)
      have k7 := below_alloc w6 (.cells #[] 3)
      have hown7 : (w6.alloc (.cells #[] 3)).ownsRow g 3 1 (.slice (some ⟨w6.heap.size, 0, none⟩) 0 0) 0 [] := World.ownsRow_made w6 #[] 0 (by have := K6.out.size; have := EG.out; omega) (by unfold maxLen; omega) rfl
      obtain ⟨g6, hg6⟩ : ∃ g, w6.heap.size = g := ⟨_, rfl⟩
      obtain ⟨W7, hW7⟩ : ∃ W, w6.alloc (.cells #[] 3) = W := ⟨_, rfl⟩
      rw [hW7] at k7 hown7
      rw [hg6] at hown7
      have O7 := Lib.hid (own_below O6.out k7)
      have K7 := Lib.hid (below_step K6.out k7)
      have LN := Lib.hid hown7
      have NE := Lib.hid (own_ne O7.out LN.out (by decide))
      obtain ⟨ad', cl', ht1, ht2, htr⟩ := TL.out
      have TR := Lib.hid (Rd.below htr k7)
      have hllb : ls.length ≤ 2 * N := by simpa using hll
      have HC1 := Lib.hid hcl1
      have HC2 := Lib.hid hcl2
      clear htr k7 hown7 TL hll hcl1 hcl2
      by_cases hc : cl = 1
      case' pos =>
        obtain ⟨rfl, rfl⟩ := ht1 hc
        subst hc
        have hz0 : ls.length = 0 := by omega
        have hls : ls = [] := List.eq_nil_of_length_eq_zero hz0
        have TR0 := Lib.hid (show Rd W7 1 (some ⟨bl, ol, none⟩) 0 [] from by have := TR.out; rw [hls] at this; exact this)
        have HLS := Lib.hid hls
        clear ht1 ht2 hls
        go_wp2_with (first
          | (at_builtin
             refine wpList_append_any _ rfl (.tmp 48) (.tmp 50) 63 rfl g 3 i0 _ 1 8 Try.underlying63 hi hz0' hz1 hz2 rfl (by decide) _ 0 [] rfl LN.out (some ⟨bl, ol, none⟩) 0 0 [] rfl TR0.out (by intro u hu; simp at hu) (by unfold maxLen; omega) (by omega) (by have := K7.out.size; have := EG.out; omega) ?_
             intro v8 w8 hown8 hg8 _
             have O8 := Lib.hid (O7.out.kept hg8 NE.out)
             rw [Nat.zero_add, List.nil_append] at hown8
             have L8 := Lib.hid (show w8.ownsRow g 3 1 v8 ls.length (ls.map (Value.int .i64)) from by rw [HLS.out]; exact hown8)
             have K8 := Lib.hid (K7.out.grown hg8 K7.out.size (fun r hr => by have := (LN.out.lt r hr).1; have := EG.out; omega))))
        clear hz0
      case' neg =>
        obtain ⟨rfl, rfl⟩ := ht2 hc
        clear ht1 ht2
        go_wp2_with (first
          | (at_builtin
             refine wpList_append_any _ rfl (.tmp 48) (.tmp 50) 63 rfl g 3 i0 _ 1 8 Try.underlying63 hi hz0' hz1 hz2 rfl (by decide) _ 0 [] rfl LN.out (some ⟨bl, ol + 1, none⟩) ls.length (cl - 1) (ls.map (Value.int .i64)) rfl TR.out (by intro u hu; obtain ⟨x, _, rfl⟩ := List.mem_map.1 hu; rfl) (by unfold maxLen; omega) (by omega) (by have := K7.out.size; have := EG.out; omega) ?_
             intro v8 w8 hown8 hg8 _
             have O8 := Lib.hid (O7.out.kept hg8 NE.out)
             rw [Nat.zero_add, List.nil_append] at hown8
             have L8 := Lib.hid hown8
             have K8 := Lib.hid (K7.out.grown hg8 K7.out.size (fun r hr => by have := (LN.out.lt r hr).1; have := EG.out; omega))))
      all_goals
        clear hW7 hg6
        have HPOP := Lib.hid (HI.out.pop rfl)
        have HR0 := Lib.hid (HI.out.sound v0 s0 hv0 hs0 (by rw [HQ.out]; exact hseen))
        have HMS0 := Lib.hid (show 2 * msB N seen + (ls.length + 1) ≤ 2 * N + 1 from by simpa using HMS.out)
        clear hseen HI HMS
        go_wp2_with fail
        go_loopw [8, 11] (fun v i wr => ∃ (k : Nat) (seen' : List Bool) (ls' : List Int), k ≤ es.length ∧ i = .int .i64 k ∧ Hid (RcI n m es arcs src ls' (fun x => x = q) seen') ∧ Hid (SuI m es arcs v0 s0 k seen') ∧ Hid (2 * msB N seen' + ls'.length ≤ 2 * msB N seen + ls.length) ∧ wr.ownsRow g 4 1 (.slice (some ⟨g, 0, none⟩) N N) N (bls seen') ∧ wr.ownsRow g 3 1 v ls'.length (ls'.map (Value.int .i64)) ∧ Below W2.heap.size W2 wr) (fun _ i _ => es.length - (intOf i).toNat)
        case atStart => exact ⟨0, seen, ls, Nat.zero_le _, rfl, HPOP, Lib.hid (fun e he => by simp at he), Lib.hid (Nat.le_refl _), O8.out, L8.out, K8.out⟩
        case round =>
          clear O8 L8 K8 HPOP O6 L6 K6 O7 K7 LN TR NE HL HO HB
          obtain ⟨k, seen', ls', hk, rfl, HI, HSU, HMM, hown, hlow, hb⟩ := hrel
          obtain ⟨wa, rfl⟩ : ∃ wo : World, wo = wr := ⟨_, rfl⟩
          have b01 := blk_cell (o := 1) (blk_below hb P0.out) rfl
          by_cases hlt : k < es.length
          · obtain ⟨be, oe, rfl, y0, y1, y2⟩ := (HE.out.below hb).at_ hlt
            have hr := HES.out _ (List.getElem_mem hlt)
            have hmem : es[k] ∈ es := List.getElem_mem hlt
            have hnext := fun (S : List Bool) (h : SuI m es arcs v0 s0 k S) hc => h.next hlt hc
            obtain ⟨y, hyy⟩ : ∃ y, es[k] = y := ⟨_, rfl⟩
            rw [hyy] at y0 y1 y2 hr hmem hnext
            obtain ⟨yf, yl, yt⟩ := y
            simp only at y0 y1 y2 hr
            obtain ⟨⟨hf0, hf1⟩, ht0, ht1⟩ := hr
            obtain ⟨f, rfl⟩ : ∃ f : Nat, yf = f := ⟨yf.toNat, by omega⟩
            obtain ⟨t, rfl⟩ : ∃ t : Nat, yt = t := ⟨yt.toNat, by omega⟩
            have hfn : f < n := by omega
            have htn : t < n := by omega
            have wt := HWR.out t htn
            obtain ⟨tq, htq⟩ : ∃ tq, t * m = tq := ⟨_, rfl⟩
            rw [htq] at wt
            have HTQ := Lib.hid htq
            have ka := below_alloc wa (.cells #[.int .i64 f, .int .u8 yl, .int .i64 t] 119)
            have p6 := heap_alloc_new wa (.cells #[.int .i64 f, .int .u8 yl, .int .i64 t] 119)
            have own6 := own_below hown ka
            have low6 := own_below hlow ka
            have hb6 := below_step hb ka
            have hgz : g < wa.heap.size := (hown.lt g rfl).2
            obtain ⟨ge, hge⟩ : ∃ g, wa.heap.size = g := ⟨_, rfl⟩
            obtain ⟨Wb, hWb⟩ : ∃ W, wa.alloc (.cells #[.int .i64 f, .int .u8 yl, .int .i64 t] 119) = W := ⟨_, rfl⟩
            rw [hWb] at p6 own6 low6 hb6
            rw [hge] at p6 hgz
            have k0 : (0 : Int) ≤ (k : Int) := by omega
            have k1 : (k : Int) < (es.length : Int) := by omega
            have HMEM := Lib.hid hmem
            have HNX := Lib.hid hnext
            have P6 := Lib.hid p6
            have O6 := Lib.hid own6
            have L6 := Lib.hid low6
            have B6 := Lib.hid hb6
            clear hyy hmem hnext hown hlow hb ka p6 own6 low6 hb6 htq
            go_wp2_with fail
            clear hWb hge
            go_loopw [8, 13] (fun v i wr => ∃ (j : Nat) (seen' : List Bool) (ls' : List Int), j ≤ arcs.length ∧ i = .int .i64 j ∧ Hid (RcI n m es arcs src ls' (fun x => x = q) seen') ∧ Hid (SuI m es arcs v0 s0 k seen') ∧ Hid (f = v0 → SuK m ⟨f, yl, t⟩ arcs s0 j seen') ∧ Hid (2 * msB N seen' + ls'.length ≤ 2 * msB N seen + ls.length) ∧ wr.heap[ge]? = some (.cells #[.int .i64 f, .int .u8 yl, .int .i64 t] 119 (0, 0)) ∧ wr.ownsRow g 4 1 (.slice (some ⟨g, 0, none⟩) N N) N (bls seen') ∧ wr.ownsRow g 3 1 v ls'.length (ls'.map (Value.int .i64)) ∧ Below W2.heap.size W2 wr) (fun _ i _ => arcs.length - (intOf i).toNat)
            case atStart => exact ⟨0, seen', ls', Nat.zero_le _, rfl, HI, HSU, Lib.hid (fun _ x hx => by simp at hx), HMM, P6.out, O6.out, L6.out, B6.out⟩
            case round =>
              clear P6 O6 L6 B6 HI HSU HMM b01 y0 y1 y2
              obtain ⟨j, seen', ls', hj, rfl, HI, HSU, HSK, HMM, p6, hown, hlow, hb⟩ := hrel
              obtain ⟨wb, rfl⟩ : ∃ wo : World, wo = wr := ⟨_, rfl⟩
              have n0 := blk_cell (o := 0) (blk_below hb P1.out) rfl
              have n1 := blk_cell (o := 1) (blk_below hb P1.out) rfl
              have e0 := blk_cell (o := 0) p6 rfl
              have P6 := Lib.hid p6
              have O6 := Lib.hid hown
              have L6 := Lib.hid hlow
              have B6 := Lib.hid hb
              by_cases hjl : j < arcs.length
              · by_cases hfv : f = v0
                · have g1' : ((f : Int) == (v0 : Int)) = true := by rw [beq_iff_eq]; omega
                  have HFV := Lib.hid hfv
                  clear hfv
                  obtain ⟨bx, ox, rfl, x0, x1, x2⟩ := (HX.out.below hb).at_ hjl
                  have hr := HAS.out _ (List.getElem_mem hjl)
                  have hmem : arcs[j] ∈ arcs := List.getElem_mem hjl
                  have hnext := fun (S : List Bool) (h : SuK m ⟨f, yl, t⟩ arcs s0 j S) hc => h.next hjl hc
                  obtain ⟨x, hxx⟩ : ∃ x, arcs[j] = x := ⟨_, rfl⟩
                  rw [hxx] at x0 x1 x2 hr hmem hnext
                  obtain ⟨xf, xl, xt⟩ := x
                  simp only at x0 x1 x2 hr hnext
                  obtain ⟨⟨hxf0, hxf1⟩, hxt0, hxt1⟩ := hr
                  obtain ⟨a, rfl⟩ : ∃ f : Nat, xf = f := ⟨xf.toNat, by omega⟩
                  obtain ⟨b, rfl⟩ : ∃ t : Nat, xt = t := ⟨xt.toNat, by omega⟩
                  simp only [Int.toNat_natCast] at hnext
                  have hbm : b < m := by omega
                  have hlt2 := HIJ.out t b htn hbm
                  rw [HTQ.out, HN.out] at hlt2
                  rw [HTQ.out] at hnext
                  obtain ⟨qn, hqn⟩ : ∃ qn, tq + b = qn := ⟨_, rfl⟩
                  rw [hqn] at hlt2 hnext
                  have wq : IntKind.i64.wrap ((tq : Int) + (b : Int)) = (qn : Int) := by rw [← hqn]; push_cast; exact IntWalk.i64_in _ (by omega)
                  have HQN := Lib.hid hqn
                  have hsl := HI.out.len
                  rw [HN.out] at hsl
                  have ka := below_alloc wb (.cells #[.int .i64 a, .int .u8 xl, .int .i64 b] 76)
                  have p9 := heap_alloc_new wb (.cells #[.int .i64 a, .int .u8 xl, .int .i64 b] 76)
                  have own9 := own_below hown ka
                  have low9 := own_below hlow ka
                  have hb9 := below_step hb ka
                  have p69 := blk_below ka p6
                  obtain ⟨gx, hgx⟩ : ∃ g, wb.heap.size = g := ⟨_, rfl⟩
                  obtain ⟨Wc, hWc⟩ : ∃ W, wb.alloc (.cells #[.int .i64 a, .int .u8 xl, .int .i64 b] 76) = W := ⟨_, rfl⟩
                  rw [hWc] at p9 own9 low9 hb9 p69
                  rw [hgx] at p9
                  have hco := own9.cellAt qn (by omega)
                  rw [bls_at (by omega)] at hco
                  have hfo := own9.frozenAt qn
                  have hst := own9.stored qn (.bool true)
                  rw [bls_set] at hst
                  obtain ⟨bv, hbv⟩ : ∃ bv, seen'.getD qn false = bv := ⟨_, rfl⟩
                  rw [hbv] at hco
                  have HBV := Lib.hid hbv
                  have n09 := blk_cell (o := 0) (blk_below hb9 P1.out) rfl
                  have e19 := blk_cell (o := 1) p69 rfl
                  have e29 := blk_cell (o := 2) p69 rfl
                  have x09 := blk_cell (o := 0) p9 rfl
                  have x19 := blk_cell (o := 1) p9 rfl
                  have x29 := blk_cell (o := 2) p9 rfl
                  have P69 := Lib.hid p69
                  have O9 := Lib.hid own9
                  have L9 := Lib.hid low9
                  have B9 := Lib.hid hb9
                  have HSTO := Lib.hid hst
                  have HNX2 := Lib.hid hnext
                  have HMEM2 := Lib.hid hmem
                  have j0' : (0 : Int) ≤ (j : Int) := by omega
                  have j1' : (j : Int) < (arcs.length : Int) := by omega
                  have qn0 : (0 : Int) ≤ (qn : Int) := by omega
                  have qn1 : (qn : Int) < (N : Int) := by omega
                  have hllb2 : ls'.length ≤ 2 * N + 1 := by have := HMM.out; have := HMS0.out; omega
                  clear hxx hmem hnext hown hlow hb ka p9 own9 low9 hb9 p69 hqn hbv hst p6
                  by_cases has0 : a = s0
                  · have g2 : ((a : Int) == (s0 : Int)) = true := by rw [beq_iff_eq]; omega
                    have HA0 := Lib.hid has0
                    clear has0
                    by_cases hll2 : xl = yl
                    · have g3 : (xl == yl) = true := by rw [beq_iff_eq]; exact hll2
                      have HL2 := Lib.hid hll2
                      clear hll2
                      cases bv
                      · have HSTQ := Lib.hid (show Stq es arcs v0 s0 t b from ⟨⟨f, yl, t⟩, HMEM.out, by simp [HFV.out], rfl, ⟨a, xl, b⟩, HMEM2.out, by simp [HA0.out], HL2.out, rfl⟩)
                        have HMK := Lib.hid (HI.out.mark HR0.out HSTQ.out htn hbm)
                        have hms := msB_set hsl hlt2 HBV.out
                        have HMS2 := Lib.hid hms
                        clear hms
                        have K10 := Lib.hid (B9.out.grown HSTO.out.2 B9.out.size (fun r hr => by cases hr; exact Nat.le_of_eq EG.out))
                        have L10 := Lib.hid (own_set_row L9.out O9.out (by decide) qn (.bool true))
                        have P10 := Lib.hid (blk_set_ne (j := qn) (u := .bool true) (g' := g) P69.out (by omega))
                        have hst1 := HSTO.out.1
                        obtain ⟨Wd, hWd⟩ : ∃ W, Wc.setCell ⟨g, qn, none⟩ (.bool true) = W := ⟨_, rfl⟩
                        rw [hWd] at K10 L10 P10 hst1
                        have O10 := Lib.hid hst1
                        have ha10 := below_alloc Wd (.cells #[.int .i64 qn] 3)
                        have O11 := Lib.hid (own_below O10.out ha10)
                        have L11 := Lib.hid (own_below L10.out ha10)
                        have P11 := Lib.hid (blk_below ha10 P10.out)
                        have K11 := Lib.hid (below_step K10.out ha10)
                        have NE1 := Lib.hid (own_ne O11.out L11.out (by decide))
                        have NE2 := Lib.hid (row_ne L11.out P11.out (by decide))
                        clear hst1 ha10
                        go_wp2_with (first
                          | (at_builtin
                             refine wpList_append_own _ rfl (.tmp 111) (.tmp 113) 63 rfl g 3 i0 (.int .i64 0) 1 8 Try.underlying63 hi hz0' hz1 hz2 rfl (by decide) _ _ _ rfl L11.out ⟨Wd.heap.size, 0, none⟩ 1 1 [.int .i64 qn] rfl rfl (cell_one_new _ _ _) (by intro u hu; simp at hu; subst hu; rfl) (by unfold maxLen; omega) (by omega) (by first | (have h1 := K11.out.size; have h2 := EG.out; omega) | (have h1 := K10.out.size; have h2 := EG.out; simp; omega)) ?_
                             intro v1 w12 hown3 hg3 _
                             have O12 := Lib.hid (O11.out.kept hg3 NE1.out)
                             have P12 := Lib.hid ((hg3.block _ (blk_lt P11.out) (fun e => NE2.out e.symm)).trans P11.out)
                             have L12 := Lib.hid hown3
                             have K12 := Lib.hid (K11.out.grown hg3 K11.out.size (fun r hr => by have := (L11.out.lt r hr).1; have := EG.out; omega))))
                        clear hWd hWc hgx
                        go_roundw
                        case rel =>
                          refine ⟨j + 1, seen'.set qn true, ls' ++ [(qn : Int)], by omega, by go_num, ?_, Lib.hid (HSU.out.up (by omega)), Lib.hid (fun h => HNX2.out _ ((HSK.out h).up (by omega)) (fun _ _ => ?_)), Lib.hid ?_, P12.out, O12.out, ?_, K12.out⟩
                          · have := HMK.out
                            rw [HTQ.out, HQN.out] at this
                            exact Lib.hid this
                          · rw [gd_setB _ _ _ _ (by omega), if_pos rfl]
                          · have h1 := HMM.out
                            have h2 := HMS2.out
                            simp only [List.length_append, List.length_cons, List.length_nil]
                            omega
                          · have := L12.out
                            simpa using this
                        case measure => simp [intOf]; omega
                      · go_wp2
                        go_roundw
                        case rel => exact ⟨j + 1, seen', ls', by omega, by go_num, HI, HSU, Lib.hid (fun h => HNX2.out _ (HSK.out h) (fun _ _ => HBV.out)), HMM, P69.out, O9.out, L9.out, B9.out⟩
                        case measure => simp [intOf]; omega
                    · have g3 : (xl == yl) = false := by rw [beq_eq_false_iff_ne]; exact hll2
                      have HNE := Lib.hid hll2
                      clear hll2
                      go_wp2
                      go_roundw
                      case rel => exact ⟨j + 1, seen', ls', by omega, by go_num, HI, HSU, Lib.hid (fun h => HNX2.out _ (HSK.out h) (fun _ h2 => absurd h2 HNE.out)), HMM, P69.out, O9.out, L9.out, B9.out⟩
                      case measure => simp [intOf]; omega
                  · have g2 : ((a : Int) == (s0 : Int)) = false := by rw [beq_eq_false_iff_ne]; omega
                    have HNE := Lib.hid has0
                    clear has0
                    go_wp2
                    go_roundw
                    case rel => exact ⟨j + 1, seen', ls', by omega, by go_num, HI, HSU, Lib.hid (fun h => HNX2.out _ (HSK.out h) (fun h1 _ => absurd h1 (by have := HNE.out; omega))), HMM, P69.out, O9.out, L9.out, B9.out⟩
                    case measure => simp [intOf]; omega
                · have g1' : ((f : Int) == (v0 : Int)) = false := by rw [beq_eq_false_iff_ne]; omega
                  have HNE := Lib.hid hfv
                  clear hfv hown hlow hb p6
                  go_wp2
                  go_roundw
                  case rel => exact ⟨k + 1, seen', ls', by omega, by go_num, HI, Lib.hid (HNX.out _ HSU.out (fun h => absurd (show f = v0 by have h2 : (f : Int) = (v0 : Int) := h; omega) HNE.out)), HMM, O6.out, L6.out, B6.out⟩
                  case measure => simp [intOf]; omega
              · obtain rfl : j = arcs.length := by omega
                clear hown hlow hb p6
                go_wp2
                go_roundw
                case rel => exact ⟨k + 1, seen', ls', by omega, by go_num, HI, Lib.hid (HNX.out _ HSU.out (fun h => HSK.out (by have h2 : (f : Int) = (v0 : Int) := h; omega))), HMM, O6.out, L6.out, B6.out⟩
                case measure => simp [intOf]; omega
          · obtain rfl : k = es.length := by omega
            have HMW2 := Lib.hid (msBW_eq (by rw [HI.out.len, HN.out]) hown)
            obtain ⟨A9, c9, rfl, _, _⟩ := own_slice hlow
            have HF : Hid (RcI n m es arcs src ls' (fun _ => False) seen') := by
              have h := HI.out
              rw [← HQ.out] at h
              exact Lib.hid (h.fin hs0 HSU.out.all)
            have HO := Lib.hid hown
            have HL := Lib.hid hlow
            have HB := Lib.hid hb
            clear hown hlow hb
            go_wp2
            go_roundw
            case rel => exact ⟨seen', ls', Lib.hid (by have := HMM.out; have := HMS0.out; omega), HF, HO.out, HL.out, HB.out⟩
            case measure =>
              rw [HMW.out, HMW2.out]
              simp only [lenV, List.length_cons]
              have := HMM.out
              omega
end Go.Proofs.Ytgpjgigmlgoiiaa
