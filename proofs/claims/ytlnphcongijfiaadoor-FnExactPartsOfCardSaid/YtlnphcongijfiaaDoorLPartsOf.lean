/- PartsOf: program and reference return the same, and what is returned is the caller's own. No conditions. -/
import Derived.Test.YtlnphcongijfiaaDoorPtWalk
import Derived.Test.YtlnphcongijfiaaDoorTouch
import Derived.OpenShut
namespace Go.Proofs.YtlnphcongijfiaaDoor
open Go.RowKit

def OwnTI (w : World) (lo hi : Nat) (A : Option Addr) (c : Nat) (zs : List ByteArray) : Prop :=
  w.ownsRow lo 9 1 (.slice A zs.length c) zs.length (zs.map Value.string) ∧ ∀ r, (Value.slice A zs.length c).ownBlock = some r → r < hi
theorem OwnTI.of {w : World} {lo c : Nat} {A : Option Addr} {zs : List ByteArray} (h : w.ownsRow lo 9 1 (.slice A zs.length c) zs.length (zs.map Value.string)) : OwnTI w lo w.heap.size A c zs := ⟨h, fun r hr => (h.lt r hr).2⟩
theorem OwnTI.keep {w w' : World} {lo hi c : Nat} {A : Option Addr} {zs : List ByteArray} (h : OwnTI w lo hi A c zs) (hb : Below w.heap.size w w') : OwnTI w' lo hi A c zs := ⟨own_below h.1 hb, h.2⟩
theorem OwnTI.touch {w w' : World} {lo hi lo' hi' c : Nat} {A : Option Addr} {zs : List ByteArray} (h : OwnTI w lo hi A c zs) (ht : Touch lo' hi' w w') (hb : hi' ≤ lo) : OwnTI w' lo hi A c zs := ⟨ht.own h.1 hb, h.2⟩
theorem OwnTI.rd {w : World} {lo hi c : Nat} {A : Option Addr} {zs : List ByteArray} (h : OwnTI w lo hi A c zs) : RdS w A zs := RdS.own h.1
def MarkedTI (w : World) (lo hi : Nat) (A : Option Addr) (c : Nat) (zs : List ByteArray) (k : Int) (e : Ending) (w' : World) : Prop :=
  e = .returned (.int .i64 (k + zs.length)) ∧ OwnTI w' lo hi A c (marksT k zs.length) ∧ Touch lo hi w w'
theorem markTexts_any (lo hi : Nat) (A : Option Addr) (c : Nat) (zs : List ByteArray) (k : Int) (w : World) (h : OwnTI w lo hi A c zs) (hk : 1 ≤ k ∧ k ≤ 4294967296) (hn : zs.length ≤ 4294967296) :
    Calls Tryd.prog 7 #[.slice A zs.length c, .int .i64 k] w (MarkedTI w lo hi A c zs k) := by
  refine (markStringS_any lo A zs.length c _ k w h.1 hk hn).mono ?_
  rintro e w' ⟨he, ho, hg⟩
  refine ⟨he, ⟨by rw [marksT_len]; exact ho, fun r hr => h.2 r (by rw [marksT_len] at hr; exact hr)⟩, (Touch.refl _ _ _).grown hg (fun r hr => ⟨(h.1.lt r hr).1, h.2 r hr⟩)⟩


set_option maxRecDepth 100000 in
set_option maxHeartbeats 6400000 in
theorem FnExactPartsOf_walk (s : ByteArray) (hs : s.size ≤ maxLen) (w : World) :
    Calls Tryd.prog 3 #[.string s] w fun e w' => e = .returned (.bool true) ∧ Below w.heap.size w w' := by
  unfold maxLen at hs
  by_cases hbig : 1048576 < s.size
  · have hbig' : (1048576 : Int) < (s.size : Int) := by omega
    go_enter Tryd.func3, Tryd.ntmps3
    go_wp2
    go_ret
    exact ⟨rfl, Below.refl _ _⟩
  · have hbig' : (s.size : Int) ≤ 1048576 := by omega
    have hz0 : (ptL s).length ≤ 1048577 := by
      have h1 := full_len (pieces s)
      have h2 := pieces_len s
      unfold ptL
      split
      · omega
      · simp
    have C1 := Lib.hid (fun w => spec_PartsOf_any s (by omega) w)
    have C2 := Lib.hid (fun w => impl_PartsOf_any s (by omega) w)
    unfold MadeTB at C1 C2
    obtain ⟨zs, hzs⟩ : ∃ zs, ptL s = zs := ⟨_, rfl⟩
    obtain ⟨b, hb⟩ : ∃ b, ptB s = b := ⟨_, rfl⟩
    rw [hzs, hb] at C1 C2
    rw [hzs] at hz0
    have q2 : (!(b == b)) = false := by simp
    have EQ := Lib.hid (fun (A0 : Option Addr) (c0 : Nat) (B0 : Option Addr) (d0 : Nat) (w : World) (h : RdS w A0 zs) (h' : RdS w B0 zs) => by have := eqStringS_any A0 B0 zs.length zs.length c0 d0 zs zs w h h' (by omega); rw [eqLT_yes rfl] at this; exact this)
    have MB := Lib.hid (fun (lo hi : Nat) (A0 : Option Addr) (c0 : Nat) (w : World) (h : OwnTI w lo hi A0 c0 zs) => markTexts_any lo hi A0 c0 zs 1 w h (by omega) (by omega))
    unfold MarkedTI at MB
    have hml := marksT_len 1 zs.length
    obtain ⟨ms, hms⟩ : ∃ ms, marksT 1 zs.length = ms := ⟨_, rfl⟩
    have HB := Lib.hid (fun (A0 : Option Addr) (c0 : Nat) (w : World) (h : RdS w A0 ms) => heldStringS_any A0 zs.length c0 1 w (by rw [hms]; have := h; unfold RdS at this; rw [← hms, marksT_len] at this; rw [← hms]; exact this) (by omega) (by omega))
    rw [hms] at MB
    clear hzs hb hml hms
    obtain ⟨zn, hzn'⟩ : ∃ n, zs.length = n := ⟨_, rfl⟩
    have HZN := Lib.hid hzn'
    rw [hzn'] at hz0
    clear hzn'
    go_enter Tryd.func3, Tryd.ntmps3
    go_wp2_with fail
    refine (C1.out _).mono ?_
    rintro e w1 ⟨B0, b0, rfl, oB, k⟩
    have hB := k
    have z1 := k.size
    clear k
    have RB := Lib.hid (OwnTI.of oB).rd
    clear oB
    have T : Below w1.heap.size w1 w1 := Below.refl _ _
    go_wp2_with fail
    refine (C2.out _).mono ?_
    rintro e w2 ⟨G1, g1, rfl, oG, k⟩
    have oG := OwnTI.of oG
    replace hB := below_step hB k
    replace T := below_step T k
    have z2 := k.size
    clear k
    go_wp2_with fail
    refine (EQ.out G1 g1 B0 b0 _ oG.rd (RB.out.below T)).mono ?_
    rintro e w3 ⟨rfl, k⟩
    replace oG := oG.keep k
    replace hB := below_step hB k
    replace T := below_step T k
    have z3 := k.size
    clear k
    go_wp2_with fail
    refine (MB.out _ _ G1 g1 _ oG).mono ?_
    rintro e w4 ⟨rfl, oM, t⟩
    replace hB := hB.trans ((t.below (by omega)).mono (by omega))
    replace T := T.trans ((t.below (by omega)).mono (by omega))
    have z4 := t.size
    clear t oG
    go_wp2_with fail
    refine (HB.out G1 g1 _ oM.rd).mono ?_
    rintro e w5 ⟨rfl, k⟩
    replace oM := oM.keep k
    replace hB := below_step hB k
    replace T := below_step T k
    have z5 := k.size
    clear k
    go_wp2_with fail
    refine (C2.out _).mono ?_
    rintro e w6 ⟨H2, h2, rfl, oH, k⟩
    replace oM := oM.keep k
    replace hB := below_step hB k
    replace T := below_step T k
    have z6 := k.size
    clear k
    have oH := OwnTI.of oH
    go_wp2_with fail
    refine (EQ.out H2 h2 B0 b0 _ oH.rd (RB.out.below T)).mono ?_
    rintro e w7 ⟨rfl, k⟩
    replace oM := oM.keep k
    replace hB := below_step hB k
    replace T := below_step T k
    have z7 := k.size
    clear k oH
    go_wp2_with fail
    refine (HB.out G1 g1 _ oM.rd).mono ?_
    rintro e w8 ⟨rfl, k⟩
    replace hB := below_step hB k
    go_wp2
    go_ret
    exact ⟨rfl, hB⟩
end Go.Proofs.YtlnphcongijfiaaDoor
