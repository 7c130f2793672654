/- impl.BagJoin: what it makes. Conditions: the sizes of the lengths. Printed by xbagjoin.py. -/
import Derived.Test.YtdikkfhdogkniaaBagAdd
namespace Go.Proofs.Ytdikkfhdogkniaa
open Go.RowKit

/-- Can the bags be joined? -/
def JoinOk (ps qs : List It) : Prop := BgOk ps ∧ BgOk qs ∧ BgOk (joinL ps qs)
noncomputable def joinR (ps qs : List It) : List It := by classical exact if JoinOk ps qs then joinL ps qs else []
theorem joinR_yes {ps qs : List It} (h : JoinOk ps qs) : joinR ps qs = joinL ps qs := by unfold joinR; exact if_pos h
theorem joinR_no {ps qs : List It} (h : ¬ JoinOk ps qs) : joinR ps qs = [] := by unfold joinR; exact if_neg h
def TinyB (ps : List It) : Prop := ∀ p ∈ ps, p.r.length ≤ 4 ∧ 1 ≤ p.t ∧ p.t ≤ 1000000
theorem BgOk.tiny {ps : List It} (h : BgOk ps) : TinyB ps := fun _ hp => ⟨(h.it hp).1.1, (h.it hp).2⟩
theorem TinyB.put {ps : List It} (h : TinyB ps) {row : List Int} {t : Int} (hr : row.length ≤ 4) (ht : 1 ≤ t ∧ t ≤ 1000000) : TinyB (lput ps row t) := by
  intro p hp
  rcases lput_mem row t ps p hp with h1 | h1 | ⟨x, h1, h2, h3⟩
  · exact h p h1
  · rw [h1]; exact ⟨hr, ht⟩
  · have := h x h1
    rw [h3, ← h2]
    exact ⟨this.1, by show 1 ≤ min (x.t + t) 1000000; omega, by show min (x.t + t) 1000000 ≤ 1000000; omega⟩
theorem TinyB.join (qs : List It) : ∀ ps : List It, TinyB ps → TinyB qs → TinyB (joinL ps qs) := by
  induction qs with
  | nil => exact fun ps h _ => h
  | cons x qs ih => exact fun ps h hq => ih _ (h.put (hq x (by simp)).1 (hq x (by simp)).2) (fun p hp => hq p (by simp [hp]))
theorem TinyB.take {qs : List It} (h : TinyB qs) (k : Nat) : TinyB (qs.take k) := fun p hp => h p (List.mem_of_mem_take hp)

set_option maxRecDepth 100000 in
set_option maxHeartbeats 6400000 in
theorem impl_BagJoin_any (A0 B0 : Option Addr) (a0 b0 : Nat) (ps qs : List It) (w : World) (hx : RdB w A0 ps) (hy : RdB w B0 qs) (hn : ps.length ≤ 4294967296) (hm : qs.length ≤ 4294967296) (hk : ∀ p ∈ ps, p.r.length ≤ 4294967296) (hl : ∀ p ∈ qs, p.r.length ≤ 4294967296) :
    Calls Try.prog 31 #[.agg #[.slice A0 ps.length a0], .agg #[.slice B0 qs.length b0]] w (MadeB2 w (joinR ps qs) (PP (JoinOk ps qs))) := by
  have HX := Lib.hid hx
  have HY := Lib.hid hy
  have HK := Lib.hid hk
  have HL := Lib.hid hl
  clear hx hy hk hl
  have BA := Lib.hid (fun w (h : RdB w A0 ps) => impl_BagOk_any A0 a0 ps w h hn HK.out)
  have BB := Lib.hid (fun w (h : RdB w B0 qs) => impl_BagOk_any B0 b0 qs w h hm HL.out)
  obtain ⟨ok1, hok1⟩ : ∃ b, PP (BgOk ps) = b := ⟨_, rfl⟩
  obtain ⟨ok2, hok2⟩ : ∃ b, PP (BgOk qs) = b := ⟨_, rfl⟩
  rw [hok1] at BA
  rw [hok2] at BB
  have H1 := Lib.hid hok1
  have H2 := Lib.hid hok2
  clear hok1 hok2
  have P0 := heap_alloc_new w (.cells #[.slice A0 ps.length a0] 29)
  have P1 := heap_alloc_new (w.alloc (.cells #[.slice A0 ps.length a0] 29)) (.cells #[.slice B0 qs.length b0] 29)
  have R0 := heap_alloc_new ((w.alloc (.cells #[.slice A0 ps.length a0] 29)).alloc (.cells #[.slice B0 qs.length b0] 29)) (.cells #[.slice none 0 0] 29)
  rw [show (w.alloc (.cells #[.slice A0 ps.length a0] 29)).heap.size = w.heap.size + 1 by simp] at P1
  rw [show ((w.alloc (.cells #[.slice A0 ps.length a0] 29)).alloc (.cells #[.slice B0 qs.length b0] 29)).heap.size = w.heap.size + 2 by simp] at R0
  have ka := below_alloc w (.cells #[.slice A0 ps.length a0] 29)
  have kb := below_alloc (w.alloc (.cells #[.slice A0 ps.length a0] 29)) (.cells #[.slice B0 qs.length b0] 29)
  have kc := below_alloc ((w.alloc (.cells #[.slice A0 ps.length a0] 29)).alloc (.cells #[.slice B0 qs.length b0] 29)) (.cells #[.slice none 0 0] 29)
  replace P0 := blk_below kc (blk_below kb P0)
  replace P1 := blk_below kc P1
  have hB := below_step (below_step ka kb) kc
  have hs1 : (((w.alloc (.cells #[.slice A0 ps.length a0] 29)).alloc (.cells #[.slice B0 qs.length b0] 29)).alloc (.cells #[.slice none 0 0] 29)).heap.size = w.heap.size + 3 := by simp
  obtain ⟨W1, hW1⟩ : ∃ W, ((w.alloc (.cells #[.slice A0 ps.length a0] 29)).alloc (.cells #[.slice B0 qs.length b0] 29)).alloc (.cells #[.slice none 0 0] 29) = W := ⟨_, rfl⟩
  rw [hW1] at P0 P1 R0 hB hs1
  clear ka kb kc
  go_enter Try.func31, Try.ntmps31
  have c0 := blk_cell (o := 0) P0 rfl
  go_wp2_with fail
  clear hW1
  refine (BA.out _ (HX.out.keep hB)).mono ?_
  rintro e w2 ⟨rfl, k2⟩
  clear c0 BA
  replace P0 := blk_below k2 P0
  replace P1 := blk_below k2 P1
  replace R0 := blk_below k2 R0
  replace hB := below_step hB k2
  have hs2 := k2.size
  clear k2
  cases ok1
  · have HN : Hid (¬ JoinOk ps qs) := Lib.hid (fun h => PP_not H1.out h.1)
    have q9 := blk_cell (o := 0) R0 rfl
    have f9 : w2.frozen? ⟨w.heap.size + 2, 0, none⟩ = false := frozen_of_row w2 _ 0 _ _ R0
    go_wp2
    refine bodyPost_ret (v := .tuple #[.agg #[.slice none 0 0], .bool false]) (by simp [results, Try.results31, go_sem, q9]) rfl (MadeB2.of (joinR_no HN.out) (PP_no HN.out) ⟨none, 0, rfl, OwnB.nil _ _, hB.setCell (by show w.heap.size ≤ w.heap.size + 2; omega) _⟩)
  · have c1 := blk_cell (o := 0) P1 rfl
    go_wp2_with fail
    refine (BB.out _ (HY.out.keep hB)).mono ?_
    rintro e w3 ⟨rfl, k3⟩
    clear c1 BB
    replace P0 := blk_below k3 P0
    replace P1 := blk_below k3 P1
    replace R0 := blk_below k3 R0
    replace hB := below_step hB k3
    have hs3 := k3.size
    clear k3
    cases ok2
    · have HN : Hid (¬ JoinOk ps qs) := Lib.hid (fun h => PP_not H2.out h.2.1)
      have q9 := blk_cell (o := 0) R0 rfl
      have f9 : w3.frozen? ⟨w.heap.size + 2, 0, none⟩ = false := frozen_of_row w3 _ 0 _ _ R0
      go_wp2
      refine bodyPost_ret (v := .tuple #[.agg #[.slice none 0 0], .bool false]) (by simp [results, Try.results31, go_sem, q9]) rfl (MadeB2.of (joinR_no HN.out) (PP_no HN.out) ⟨none, 0, rfl, OwnB.nil _ _, hB.setCell (by show w.heap.size ≤ w.heap.size + 2; omega) _⟩)
    · have c0 := blk_cell (o := 0) P0 rfl
      have hok := PP_of H1.out
      have hpl := hok.1
      have hql := (PP_of H2.out).1
      have HOK := Lib.hid hok
      clear hok
      go_wp2_with fail
      refine (copyBag_any A0 a0 ps w3 (HX.out.keep hB) hn HK.out).mono ?_
      rintro e w4 ⟨A1, c1, rfl, o1, k4⟩
      clear c0
      replace P1 := blk_below k4 P1
      replace R0 := blk_below k4 R0
      replace hB := below_step hB k4
      have hs4 := k4.size
      have ka := below_alloc w4 (.cells #[.slice A1 ps.length c1] 29)
      have Q0 := heap_alloc_new w4 (.cells #[.slice A1 ps.length c1] 29)
      replace P1 := blk_below ka P1
      replace R0 := blk_below ka R0
      replace hB := below_step hB ka
      replace o1 := o1.keep ka
      have hs5 : (w4.alloc (.cells #[.slice A1 ps.length c1] 29)).heap.size = w4.heap.size + 1 := by simp
      obtain ⟨gq, hgq⟩ : ∃ g, w4.heap.size = g := ⟨_, rfl⟩
      obtain ⟨W5, hW5⟩ : ∃ W, w4.alloc (.cells #[.slice A1 ps.length c1] 29) = W := ⟨_, rfl⟩
      rw [hW5] at P1 R0 hB Q0 o1 hs5
      rw [hgq] at Q0 hs4 hs5
      obtain ⟨base, hbase⟩ : ∃ b, w3.heap.size = b := ⟨_, rfl⟩
      rw [hbase] at o1 hs4 hs3
      have c1' := blk_cell (o := 0) P1 rfl
      clear k4 ka P0
      go_wp2
      clear hW5 hgq c1' hbase
      go_loopw [23] (fun i wr => ∃ (k : Nat) (A : Option Addr) (c : Nat) (acc : List It), k ≤ qs.length ∧ i = .int .i64 k ∧ Hid (joinL ps (qs.take k) = acc ∧ BgOk acc) ∧ wr.heap[gq]? = some (.cells #[.slice A acc.length c] 29 (0, 0)) ∧ OwnB wr base A c acc ∧ wr.heap[w.heap.size + 2]? = some (.cells #[.slice none 0 0] 29 (0, 0)) ∧ Below w.heap.size w wr ∧ gq < wr.heap.size) (fun i _ => qs.length - (intOf i).toNat)
      case atStart => exact ⟨0, A1, c1, ps, Nat.zero_le _, rfl, Lib.hid ⟨rfl, HOK.out⟩, Q0, o1, R0, hB, by omega⟩
      clear Q0 o1 R0 hB P1
      case round =>
        obtain ⟨k, A, c, acc, hk, rfl, HACC, Q0, o1, R0, hB, hgr⟩ := hrel
        by_cases hlt : k < qs.length
        · obtain ⟨ba, o, Kk, ck, rfl, c0w, c1w, hrkw⟩ := HY.out.at_ hlt
          have c0 := held_step hB c0w
          have c1 := held_step hB c1w
          have hrk := RdI.below hrkw hB
          have hxi := (PP_of H2.out).it (List.getElem_mem hlt)
          have hkl := hxi.1.1
          have hht := hxi.2
          clear hxi
          obtain ⟨x, hxx⟩ : ∃ x, qs[k] = x := ⟨_, rfl⟩
          rw [hxx] at c0 c1 hkl hrk hht
          have EX := Lib.hid hxx
          have k0 : (0 : Int) ≤ (k : Int) := by omega
          have k1 : (k : Int) < (qs.length : Int) := by omega
          obtain ⟨xr, xt⟩ := x
          simp only at c0 c1 hkl hrk hht
          have ka := below_alloc wr (.cells #[.slice Kk xr.length ck, .int .i64 xt] 54)
          have y := heap_alloc_new wr (.cells #[.slice Kk xr.length ck, .int .i64 xt] 54)
          replace Q0 := blk_below ka Q0
          replace o1 := o1.keep ka
          replace R0 := blk_below ka R0
          replace hrk := RdI.below hrk ka
          replace hB := below_step hB ka
          have hs6 : (wr.alloc (.cells #[.slice Kk xr.length ck, .int .i64 xt] 54)).heap.size = wr.heap.size + 1 := by simp
          obtain ⟨W6, hW6⟩ : ∃ W, wr.alloc (.cells #[.slice Kk xr.length ck, .int .i64 xt] 54) = W := ⟨_, rfl⟩
          obtain ⟨gx, hgx⟩ : ∃ g, wr.heap.size = g := ⟨_, rfl⟩
          rw [hW6] at y Q0 o1 R0 hrk hB hs6
          rw [hgx] at y hs6 hgr
          have y0 := blk_cell (o := 0) y rfl
          have y1 := blk_cell (o := 1) y rfl
          clear c0w c1w hrkw hxx ka y
          obtain ⟨lp, hlp⟩ : ∃ l, lput acc xr xt = l := ⟨_, rfl⟩
          have PU := Lib.hid (put_any gq base c ck A Kk acc xr xt W6 Q0 o1 (by omega) HACC.out.2 hrk (by omega) hht)
          rw [hlp] at PU
          have HLP := Lib.hid hlp
          clear hlp hrk hht
          obtain ⟨ok3, hok3⟩ : ∃ b, PP (BgOk lp) = b := ⟨_, rfl⟩
          unfold PutB at PU
          rw [hok3] at PU
          have H3 := Lib.hid hok3
          clear hok3
          go_wp2_with fail
          clear hW6 hgx
          refine PU.out.mono ?_
          rintro e w7 ⟨rfl, but, hq⟩
          replace R0 := but.blk R0 (by omega) (by omega)
          replace hB := hB.trans (but.below (by omega) (by omega) (by omega))
          have hs7 := but.size
          clear Q0 o1 but PU c0 c1 y0 y1
          cases ok3
          · have HN : Hid (¬ JoinOk ps qs) := Lib.hid (fun h => PP_not H3.out (Classical.byContradiction fun hn => joinL_no (PP_of H2.out) hlt (by rw [HACC.out.1]; exact HACC.out.2) (by rw [HACC.out.1, EX.out, HLP.out]; exact hn) h.2.2))
            have q9 := blk_cell (o := 0) R0 rfl
            have f9 : w7.frozen? ⟨w.heap.size + 2, 0, none⟩ = false := frozen_of_row w7 _ 0 _ _ R0
            go_wp2
            refine bodyPost_ret (v := .tuple #[.agg #[.slice none 0 0], .bool false]) (by simp [results, Try.results31, go_sem, q9]) rfl (MadeB2.of (joinR_no HN.out) (PP_no HN.out) ⟨none, 0, rfl, OwnB.nil _ _, hB.setCell (by show w.heap.size ≤ w.heap.size + 2; omega) _⟩)
          · obtain ⟨A7, c7, Q7, o7⟩ := hq (PP_of H3.out)
            clear hq
            go_wp2
            go_roundw
            case rel => exact ⟨k + 1, A7, c7, lp, by omega, by go_num, Lib.hid ⟨by rw [joinL_next hlt, HACC.out.1, EX.out, HLP.out], PP_of H3.out⟩, Q7, o7, R0, hB, by omega⟩
            case measure => simp [intOf]; omega
        · obtain rfl : k = qs.length := by omega
          have hj : joinL ps qs = acc := by have := HACC.out.1; rw [List.take_length] at this; exact this
          have HJ := Lib.hid hj
          clear hj
          have HYS : Hid (JoinOk ps qs) := Lib.hid ⟨HOK.out, PP_of H2.out, by rw [HJ.out]; exact HACC.out.2⟩
          have b7 := blk_cell (o := 0) Q0 rfl
          have q9 := blk_cell (o := 0) R0 rfl
          have f9 : wr.frozen? ⟨w.heap.size + 2, 0, none⟩ = false := frozen_of_row wr _ 0 _ _ R0
          go_wp2
          refine bodyPost_ret (v := .tuple #[.agg #[.slice A acc.length c], .bool true]) (by simp [results, Try.results31, go_sem, q9]) rfl (MadeB2.of ((joinR_yes HYS.out).trans HJ.out) (PP_yes HYS.out) ⟨A, c, rfl, (o1.setBag R0).mono (by omega), hB.setCell (by show w.heap.size ≤ w.heap.size + 2; omega) _⟩)
end Go.Proofs.Ytdikkfhdogkniaa
