/- spec.l02Spoilt: a text with something else in it. (From XDrawT.) No conditions but the text's length. -/
import Derived.Test.YtdikkfhdogkniaaDraw
import Derived.Deep.RegionLaw
namespace Go.Proofs.Ytdikkfhdogkniaa
open Go.RowKit

/-- What the spoiling of a text leaves. -/
def DrawnS (w0 : World) (g : Nat) (w : World) (n : Nat) (e : Ending) (w' : World) : Prop := ∃ t : ByteArray, e = .returned (.string t) ∧ t.size ≤ n + 1 ∧ CurAt w0 g w' ∧ w.grownBy w' (some g)

theorem run_catS {P : Program} (a b : ByteArray) (h : a.size + b.size ≤ 4294967296) (w : World) : (Op.stringOp .add a b).run P w = .ok (.string (a ++ b)) w := by
  have h2 : ¬ (9223372036854775807 < a.size + b.size) := by omega
  go_simp
theorem str_size1 {zs : List Int} (h : (zs.length : Int) ≤ max 1 0) : (strOfNums zs).size ≤ 1 := by
  rw [strOfNums_size]
  omega
theorem CurAt.size {w0 w : World} {g : Nat} (h : CurAt w0 g w) : g < w.heap.size := h.lt
set_option maxRecDepth 100000 in
set_option maxHeartbeats 6400000 in
theorem l02Spoilt_any (w0 : World) (g : Nat) (w : World) (s : ByteArray) (hs : s.size ≤ 5000) (hcur : CurAt w0 g w) (hB : Below w0.heap.size w0 w) :
    Calls Try.prog 73 #[.pointer (some ⟨g, 0, none⟩), .string s] w (DrawnS w0 g w s.size) := by
  have C12 := Lib.hid (l01Below_any w0 g w 12 (by omega) hcur hB)
  clear hcur
  go_enter Try.func73, Try.ntmps73
  go_wp2_with fail
  refine C12.out.mono ?_
  rintro e w1 h
  obtain ⟨k, rfl, ⟨hk0, hk1⟩, hc1, hg1, hb1⟩ := h.step hB
  clear h C12
  have hk12 : k < 12 := by omega
  clear hk1
  rcases (by omega : k = 0 ∨ k = 1 ∨ k = 2 ∨ k = 3 ∨ 4 ≤ k) with rfl | rfl | rfl | rfl | hk4
  · go_wp2_with fail
    refine (l01Text_any w0 g w1 1 (by omega) hc1 hb1).mono ?_
    rintro e w2 ⟨zs, rfl, hl, _, hc2, hg2⟩
    have hz := str_size1 hl
    clear hl
    obtain ⟨t, ht⟩ : ∃ t, strOfNums zs = t := ⟨_, rfl⟩
    rw [ht] at hz ⊢
    clear ht
    have q0 := fun (w : World) => run_catS (P := Try.prog) s t (by omega) w
    go_wp2
    go_ret
    exact ⟨_, rfl, by simp; omega, hc2, only_trans hg1 hg2⟩
  · go_wp2_with fail
    refine (l01Below_any w0 g w1 (s.size + 1) (by omega) hc1 hb1).mono ?_
    rintro e w2 ⟨x, rfl, hx, hc2, hg2⟩
    obtain ⟨x, rfl⟩ : ∃ k : Nat, x = k := ⟨x.toNat, by omega⟩
    have hxs : x ≤ s.size := by omega
    clear hx
    go_wp2
    go_ret
    exact ⟨_, rfl, by simp; omega, hc2, only_trans hg1 hg2⟩
  rotate_left 2
  · go_wp2
    go_ret
    exact ⟨_, rfl, by omega, hc1, hg1⟩
  all_goals
    by_cases hs0 : 0 < s.size
    · go_wp2_with fail
      refine (l01Below_any w0 g w1 s.size (by omega) hc1 hb1).mono ?_
      rintro e w2 h
      obtain ⟨x, rfl, hx, hc2, hg2, hb2⟩ := h.step hb1
      clear h
      obtain ⟨x, rfl⟩ : ∃ k : Nat, x = k := ⟨x.toNat, by omega⟩
      have hxs : x + 1 ≤ s.size := by omega
      have hxi : (x : Int) + 1 ≤ (s.size : Int) := by omega
      have hx1 : x ≤ s.size := by omega
      have hx0 : (0 : Int) ≤ (x : Int) + 1 := by omega
      have hw : IntKind.i64.wrap ((x : Int) + 1) = ((x + 1 : Nat) : Int) := IntWalk.i64_in _ (by omega)
      have hG := Lib.hid (only_trans hg1 hg2)
      have hc3 : CurAt w0 g w2.drew := hc2
      have hb3 : Below w0.heap.size w0 w2.drew := hb2.drew
      have hG3 : Hid (w.grownBy w2.drew (some g)) := Lib.hid (only_drewN hG.out 1)
      clear hx hc1 hb1 hg1 hg2 hc2 hb2 hG
      have q0 := fun (w : World) (t : ByteArray) (h : t.size ≤ 1) => run_catS (P := Try.prog) (s.extract 0 x) t (by simp; omega) w
      have q1 := fun (w : World) (t : ByteArray) (h : t.size ≤ 1) => run_catS (P := Try.prog) (s.extract 0 x ++ t) (s.extract (x + 1) s.size) (by simp; omega) w
      have Q0 := Lib.hid q0
      have Q1 := Lib.hid q1
      clear q0 q1
      go_wp2_with fail
      go_region_law (first
        | (go_simp
           go_at_call 86
           refine (l01Text_any w0 g w2.drew 1 (by omega) hc3 hb3).mono ?_
           rintro e w3 ⟨zs, rfl, hl, _, hc4, hg4⟩
           have hz := str_size1 hl
           clear hl
           obtain ⟨t, ht⟩ : ∃ t, strOfNums zs = t := ⟨_, rfl⟩
           rw [ht] at hz ⊢
           clear ht
           have q0 := fun (w : World) => Q0.out w t hz
           have q1 := fun (w : World) => Q1.out w t hz))
      all_goals
        clear hw hx0
        go_wp2
        go_ret
        exact ⟨_, rfl, by simp; omega, hc4, only_trans hG3.out hg4⟩
    · have hs0' : s.size ≤ 0 := by omega
      go_wp2
      go_ret
      exact ⟨_, rfl, by omega, hc1, hg1⟩
end Go.Proofs.Ytdikkfhdogkniaa
