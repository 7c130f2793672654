/- SameWords: the program's functions. Conditions: the labels' range and the sizes of the lengths. -/
import Derived.Test.YtgpjgigmlgoiiaaSameP
namespace Go.Proofs.Ytgpjgigmlgoiiaa
open Go.RowKit

theorem u32_or (x y : Nat) (hx : x < 4294967296) (hy : y < 4294967296) : bits .or .u32 (x : Int) (y : Int) = ((x ||| y : Nat) : Int) := u32_or_nat _ _ hx hy
theorem new_two (w : World) (o1 o2 : Obj) : ∃ W, (w.alloc o1).alloc o2 = W ∧ W.heap[w.heap.size]? = some o1 ∧ W.heap[w.heap.size + 1]? = some o2 ∧ Below w.heap.size w W ∧ W.heap.size = w.heap.size + 2 := by
  refine ⟨_, rfl, blk_below (below_alloc _ _) (heap_alloc_new w o1), ?_, below_step (below_alloc _ _) (below_alloc _ _), by simp⟩
  have := heap_alloc_new (w.alloc o1) o2
  simpa using this

set_option maxRecDepth 100000 in
set_option maxHeartbeats 6400000 in
theorem sameFrom_any (s t : Int) (A B A' B' : Option Addr) (c d c' d' : Nat) (es es' : List Ed) (bs bs' : List Bool) (hn : es.length ≤ 4294967296) (hn' : es'.length ≤ 4294967296) (h1 : NOk s es bs) (h2 : NOk t es' bs') :
    ∀ (k : Nat) (m : Int), m = k → k ≤ 6 → ∀ (x y : Nat) (w : World), x < 16777216 → y < 16777216 → InS x bs.length → InS y bs'.length → RdE w A es → RdB w B bs.length bs → RdE w A' es' → RdB w B' bs'.length bs' →
    Calls Try.prog 58 #[.agg #[.int .i64 s, .slice A es.length c, .slice B bs.length d], .agg #[.int .i64 t, .slice A' es'.length c', .slice B' bs'.length d'], .int .u32 x, .int .u32 y, .int .i64 m] w fun e w' => e = .returned (.bool (sameF es es' bs bs' k x y)) ∧ Below w.heap.size w w' := by
  intro k
  induction k with
  | zero =>
    intro m hm _ x y w hx hy ix iy ra rb ra' rb'
    have m0 : (m == 0) = true := by simp [hm]
    obtain ⟨W, hW, p1, p2, bW, hs⟩ := new_two w (.cells #[.int .i64 s, .slice A es.length c, .slice B bs.length d] 29) (.cells #[.int .i64 t, .slice A' es'.length c', .slice B' bs'.length d'] 29)
    have A1 := Lib.hid (fun p : BelowOf W => accepts_any s A B es.length c d bs x p.w (RdB.below (rb.below bW) p.h) (by omega) ix)
    have A2 := Lib.hid (fun p : BelowOf W => accepts_any t A' B' es'.length c' d' bs' y p.w (RdB.below (rb'.below bW) p.h) (by omega) iy)
    have BW := Lib.hid bW
    show Calls _ _ _ _ fun e w' => e = .returned (.bool (accB bs x == accB bs' y)) ∧ Below w.heap.size w w'
    obtain ⟨r1, hr1⟩ : ∃ r, accB bs x = r := ⟨_, rfl⟩
    obtain ⟨r2, hr2⟩ : ∃ r, accB bs' y = r := ⟨_, rfl⟩
    rw [hr1] at A1 ⊢
    rw [hr2] at A2 ⊢
    have P1 := Lib.hid p1
    have P2 := Lib.hid p2
    clear hs hr1 hr2 p1 p2 bW ra rb ra' rb' ix iy hm h1 h2 hn hn'
    go_enter Try.func58, Try.ntmps58
    go_wp2_with fail
    clear hW
    have b0 := fun p => cellQ (blk_cell (o := 0) P1.out rfl) p
    have b1 := fun p => cellQ (blk_cell (o := 1) P1.out rfl) p
    have b2 := fun p => cellQ (blk_cell (o := 2) P1.out rfl) p
    have c0 := fun p => cellQ (blk_cell (o := 0) P2.out rfl) p
    have c1 := fun p => cellQ (blk_cell (o := 1) P2.out rfl) p
    have c2 := fun p => cellQ (blk_cell (o := 2) P2.out rfl) p
    refine wp_region_below (by kernel_rfl) (by kernel_rfl) ?_
    repeat (first
      | go_big_quiet_step ((first | (go_at_call 49; with_reducible exact Calls.below_of (A1.out _)) | (go_at_call 49; with_reducible exact Calls.below_of (A2.out _))))
      | quiet_step ((first | (go_at_call 49; with_reducible exact Calls.below_of (A1.out _)) | (go_at_call 49; with_reducible exact Calls.below_of (A2.out _)))))
    refine wpQuiet_nil ?_
    intro _ hw'
    obtain ⟨⟨w5, kk⟩, hw''⟩ := hw'
    subst hw''
    clear b0 b1 b2 c0 c1 c2
    cases r1 <;> cases r2
    all_goals
      go_wp2
      go_ret
      exact ⟨rfl, below_step BW.out kk⟩
  | succ k ih =>
    intro m hm hk6 x y w hx hy ix iy ra rb ra' rb'
    have m0 : (m == 0) = false := by
      rw [beq_eq_false_iff_ne]
      omega
    have m1 : IntKind.i64.wrap (m - 1) = m - 1 := IntWalk.i64_in _ (by omega)
    obtain ⟨W, hW, p1, p2, bW, hs⟩ := new_two w (.cells #[.int .i64 s, .slice A es.length c, .slice B bs.length d] 29) (.cells #[.int .i64 t, .slice A' es'.length c', .slice B' bs'.length d'] 29)
    have A1 := Lib.hid (fun p : BelowOf W => accepts_any s A B es.length c d bs x p.w (RdB.below (rb.below bW) p.h) (by omega) ix)
    have A2 := Lib.hid (fun p : BelowOf W => accepts_any t A' B' es'.length c' d' bs' y p.w (RdB.below (rb'.below bW) p.h) (by omega) iy)
    have BW := Lib.hid bW
    have IH0 := Lib.hid (ih (m - 1) (by omega) (by omega))
    have MM1 := Lib.hid m1
    show Calls _ _ _ _ fun e w' => e = .returned (.bool ((accB bs x == accB bs' y) && (decide (x ||| y = 0) || [97, 98, 99, 100].all fun l : Int => sameF es es' bs bs' k (moveN es x l) (moveN es' y l)))) ∧ Below w.heap.size w w'
    obtain ⟨r1, hr1⟩ : ∃ r, accB bs x = r := ⟨_, rfl⟩
    obtain ⟨r2, hr2⟩ : ∃ r, accB bs' y = r := ⟨_, rfl⟩
    rw [hr1] at A1 ⊢
    rw [hr2] at A2 ⊢
    have P1 := Lib.hid p1
    have P2 := Lib.hid p2
    have RA := Lib.hid ra
    have RB := Lib.hid rb
    have RA' := Lib.hid ra'
    have RB' := Lib.hid rb'
    have H1 := Lib.hid h1
    have H2 := Lib.hid h2
    have or1 := u32_or x y (by omega) (by omega)
    obtain ⟨q, hq⟩ : ∃ q, x ||| y = q := ⟨_, rfl⟩
    rw [hq] at or1 ⊢
    clear hq
    have OR := Lib.hid or1
    obtain ⟨F, hF⟩ : ∃ F : Int → Bool, (fun l : Int => sameF es es' bs bs' k (moveN es x l) (moveN es' y l)) = F := ⟨_, rfl⟩
    rw [hF]
    have HF := Lib.hid (fun l : Int => congrFun hF l)
    obtain ⟨R, hR⟩ : ∃ R, ((r1 == r2) && (decide (q = 0) || [97, 98, 99, 100].all F)) = R := ⟨_, rfl⟩
    rw [hR]
    have HR := Lib.hid hR
    clear hR
    have REST : ∀ (g : Bool), (∀ l : Int, 97 ≤ l → l ≤ 100 → F l = true) → Hid (((true && (g || [97, 98, 99, 100].all F)) = true)) := fun g h => by
      show _ = _
      simp [h 97 (by omega) (by omega), h 98 (by omega) (by omega), h 99 (by omega) (by omega), h 100 (by omega) (by omega)]
    have RESTN : ∀ (l : Int), 97 ≤ l → l ≤ 100 → F l = false → Hid (((true && (false || [97, 98, 99, 100].all F)) = false)) := fun l h0 h1 h => by
      show _ = _
      have : l = 97 ∨ l = 98 ∨ l = 99 ∨ l = 100 := by omega
      rcases this with rfl | rfl | rfl | rfl <;> simp [h]
    have REST := Lib.hid REST
    have RESTN := Lib.hid RESTN
    clear hs hF hr1 hr2 p1 p2 bW ra rb ra' rb' hm h1 h2 ih or1 m1
    go_enter Try.func58, Try.ntmps58
    go_wp2_with fail
    clear hW
    have b0 := fun p => cellQ (blk_cell (o := 0) P1.out rfl) p
    have b1 := fun p => cellQ (blk_cell (o := 1) P1.out rfl) p
    have b2 := fun p => cellQ (blk_cell (o := 2) P1.out rfl) p
    have c0 := fun p => cellQ (blk_cell (o := 0) P2.out rfl) p
    have c1 := fun p => cellQ (blk_cell (o := 1) P2.out rfl) p
    have c2 := fun p => cellQ (blk_cell (o := 2) P2.out rfl) p
    refine wp_region_below (by kernel_rfl) (by kernel_rfl) ?_
    repeat (first
      | go_big_quiet_step ((first | (go_at_call 49; with_reducible exact Calls.below_of (A1.out _)) | (go_at_call 49; with_reducible exact Calls.below_of (A2.out _))))
      | quiet_step ((first | (go_at_call 49; with_reducible exact Calls.below_of (A1.out _)) | (go_at_call 49; with_reducible exact Calls.below_of (A2.out _)))))
    refine wpQuiet_nil ?_
    intro _ hw'
    obtain ⟨⟨w5, kk⟩, hw''⟩ := hw'
    subst hw''
    clear b0 b1 b2 c0 c1 c2
    obtain ⟨n, hn⟩ : ∃ n, (!(r1 == r2)) = n := ⟨_, rfl⟩
    rw [hn]
    have HN := Lib.hid hn
    clear hn
    cases n
    · have HRR := Lib.hid (show (r1 == r2) = true by have := HN.out; simpa using this)
      by_cases hq : q = 0
      · subst hq
        have o1 : (bits .or .u32 (x : Int) (y : Int) == 0) = true := by rw [OR.out]; rfl
        go_wp2
        go_ret
        exact ⟨ret_b2 (by rw [← HR.out, HRR.out]; simp), below_step BW.out kk⟩
      · have o1 : (bits .or .u32 (x : Int) (y : Int) == 0) = false := by
          rw [OR.out, beq_eq_false_iff_ne]
          omega
        have HQ := Lib.hid (show decide (q = 0) = false by simpa using hq)
        have Q1 := Lib.hid (blk_below kk P1.out)
        have Q2 := Lib.hid (blk_below kk P2.out)
        have B5 := Lib.hid (below_step BW.out kk)
        clear kk hq A1 A2 P1 P2 BW
        go_wp2_with fail
        clear o1 m0
        go_loopw [11] (fun l wr => ∃ a : Int, 97 ≤ a ∧ a ≤ 101 ∧ l = .int .u8 a ∧ Hid (∀ b, 97 ≤ b → b < a → F b = true) ∧ wr.heap[w.heap.size]? = some (.cells #[.int .i64 s, .slice A es.length c, .slice B bs.length d] 29 (0, 0)) ∧ wr.heap[w.heap.size + 1]? = some (.cells #[.int .i64 t, .slice A' es'.length c', .slice B' bs'.length d'] 29 (0, 0)) ∧ Below w.heap.size w wr) (fun l _ => (101 - intOf l).toNat)
        case atStart => exact ⟨97, by omega, by omega, rfl, fun b _ _ => absurd ‹97 ≤ b› (by omega), Q1.out, Q2.out, B5.out⟩
        case round =>
          clear Q1 Q2 B5
          obtain ⟨a, ha0, ha1, rfl, HA, q1, q2, hb⟩ := hrel
          have P1 := Lib.hid q1
          have P2 := Lib.hid q2
          have HB := Lib.hid hb
          by_cases hlt : a ≤ 100
          · have M1 := Lib.hid (fun p : BelowOf wr => move_any s A B bs.length c d es x a p.w (RdE.below (RdE.below RA.out hb) p.h) hn H1.out.sm2 hx)
            have M2 := Lib.hid (fun p : BelowOf wr => move_any t A' B' bs'.length c' d' es' y a p.w (RdE.below (RdE.below RA'.out hb) p.h) hn' H2.out.sm2 hy)
            have l1 := moveN_lt x a H1.out.sm2
            have l2 := moveN_lt y a H2.out.sm2
            have i1 := InS.move (S := x) (l := a) H1.out.inT
            have i2 := InS.move (S := y) (l := a) H2.out.inT
            have hfa := HF.out a
            have IH := Lib.hid (fun p : BelowOf wr => IH0.out (moveN es x a) (moveN es' y a) p.w l1 l2 i1 i2 (RdE.below (RdE.below RA.out hb) p.h) (RdB.below (RdB.below RB.out hb) p.h) (RdE.below (RdE.below RA'.out hb) p.h) (RdB.below (RdB.below RB'.out hb) p.h))
            rw [hfa] at IH
            obtain ⟨u1, hu1⟩ : ∃ u, moveN es x a = u := ⟨_, rfl⟩
            obtain ⟨u2, hu2⟩ : ∃ u, moveN es' y a = u := ⟨_, rfl⟩
            obtain ⟨f, hf⟩ : ∃ f, F a = f := ⟨_, rfl⟩
            rw [hu1] at M1 IH
            rw [hu2] at M2 IH
            rw [hf] at IH
            have HFA := Lib.hid hf
            have m1 := MM1.out
            clear hu1 hu2 hf hfa l1 l2 i1 i2 q1 q2 hb
            go_wp2_with fail
            have b0 := fun p => cellQ (blk_cell (o := 0) P1.out rfl) p
            have b1 := fun p => cellQ (blk_cell (o := 1) P1.out rfl) p
            have b2 := fun p => cellQ (blk_cell (o := 2) P1.out rfl) p
            have c0 := fun p => cellQ (blk_cell (o := 0) P2.out rfl) p
            have c1 := fun p => cellQ (blk_cell (o := 1) P2.out rfl) p
            have c2 := fun p => cellQ (blk_cell (o := 2) P2.out rfl) p
            refine wp_region_below (by kernel_rfl) (by kernel_rfl) ?_
            repeat (first
              | go_big_quiet_step ((first | (go_at_call 47; with_reducible exact Calls.below_of (M1.out _)) | (go_at_call 47; with_reducible exact Calls.below_of (M2.out _)) | (go_at_call 58; with_reducible exact Calls.below_of (IH.out _))))
              | quiet_step ((first | (go_at_call 47; with_reducible exact Calls.below_of (M1.out _)) | (go_at_call 47; with_reducible exact Calls.below_of (M2.out _)) | (go_at_call 58; with_reducible exact Calls.below_of (IH.out _)))))
            refine wpQuiet_nil ?_
            intro _ hw'
            obtain ⟨⟨w5, kk⟩, hw''⟩ := hw'
            subst hw''
            clear b0 b1 b2 c0 c1 c2
            clear m1
            have B6 := below_step HB.out kk
            have q1 := blk_below kk P1.out
            have q2 := blk_below kk P2.out
            clear kk
            cases f
            · go_wp2
              go_ret
              exact ⟨ret_b2 (by have h := (RESTN.out a ha0 hlt HFA.out).out; rw [← HR.out, HQ.out, HRR.out, h]), B6⟩
            · go_wp2
              go_roundw
              case rel => exact ⟨a + 1, by omega, by omega, by go_num, fun b h0 h1 => by
                by_cases e : b = a
                · rw [e]; exact HFA.out
                · exact HA.out b h0 (by omega), q1, q2, B6⟩
              case measure => simp [intOf]; omega
          · clear q1 q2 hb
            go_wp2
            go_ret
            exact ⟨ret_b2 (by have h := (REST.out false fun l h0 h1 => HA.out l h0 (by omega)).out; rw [← HR.out, HQ.out, HRR.out, h]), HB.out⟩
    · have HNR := Lib.hid (show (r1 == r2) = false by have := HN.out; simpa using this)
      go_wp2
      go_ret
      exact ⟨ret_b2 (by rw [← HR.out, HNR.out]; rfl), below_step BW.out kk⟩
end Go.Proofs.Ytgpjgigmlgoiiaa
