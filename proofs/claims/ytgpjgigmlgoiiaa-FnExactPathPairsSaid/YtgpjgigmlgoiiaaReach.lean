/- impl.reached: the relation of a path over a graph. Conditions: a valid path, the edges in their range. -/
import Derived.Test.YtgpjgigmlgoiiaaMean
import Derived.Test.YtgpjgigmlgoiiaaClosG
import Derived.Test.YtgpjgigmlgoiiaaStG
namespace Go.Proofs.Ytgpjgigmlgoiiaa
open Go.RowKit

theorem IsU.set {n : Nat} {rs : List Nat} {R : Rl} (h : IsU n rs R) {f t : Nat} (hf : f < n) (ht : t < n) (hn : n ≤ 32) : IsU n (rs.set f (rs.getD f 0 ||| 2 ^ t)) (fun a b => R a b ∨ (a = f ∧ b = t)) := by
  refine ⟨by simp [h.len], lo_set h.lo f (Nat.or_lt_two_pow (n := 32) (h.lo f) (pow_lt32 (by omega))), fun i hi j => ?_⟩
  have hb := h.bit i hi j
  unfold RB at hb ⊢
  rw [gd_set _ _ _ _ (by rw [h.len]; exact hf)]
  by_cases e : f = i
  · subst e
    rw [if_pos rfl, Nat.testBit_or, Bool.or_eq_true, hb, Nat.testBit_two_pow]
    constructor
    · rintro (⟨h1, h2⟩ | h2)
      · exact ⟨h1, .inl h2⟩
      · have : t = j := by simpa using h2
        exact ⟨by omega, .inr ⟨rfl, this.symm⟩⟩
    · rintro ⟨h1, h2 | ⟨_, h2⟩⟩
      · exact .inl ⟨h1, h2⟩
      · exact .inr (by simpa using h2.symm)
  · rw [if_neg e, hb]
    constructor
    · rintro ⟨h1, h2⟩; exact ⟨h1, .inl h2⟩
    · rintro ⟨h1, h2 | ⟨h2, _⟩⟩
      · exact ⟨h1, h2⟩
      · exact absurd h2.symm e
theorem rcN_isU (n : Nat) (es : List Ed) (l : Int) (hn : n ≤ 32) (her : ∀ e ∈ es, (0 ≤ e.f ∧ e.f < n) ∧ (0 ≤ e.t ∧ e.t < n)) : ∀ k, k ≤ es.length → IsU n (rcN n es l k) (stG (es.take k) l)
  | 0, _ => (IsU.none n).as (fun i j _ _ => ⟨fun h => h.elim, fun h => by obtain ⟨e, he, _⟩ := h; simp at he⟩)
  | k + 1, hk => by
    have ih := rcN_isU n es l hn her k (by omega)
    have hlt : k < es.length := by omega
    have hgd : es.getD k default = es[k] := by simp [List.getD, hlt]
    have hr := her _ (List.getElem_mem hlt)
    unfold rcN
    rw [hgd]
    by_cases hl : es[k].l = l
    · rw [if_pos hl]
      obtain ⟨⟨hf0, hf1⟩, ht0, ht1⟩ := hr
      have hs := ih.set (f := es[k].f.toNat) (t := es[k].t.toNat) (by omega) (by omega) hn
      exact hs.as (stG_next hlt hl (by omega) (by omega))
    · rw [if_neg hl]
      exact ih.as (stG_skip hlt hl)
theorem callF_reach : ∀ (args : Array Value) (w : World), (callFunc 101 args).run Try.prog w = .ok (.enter 101 args) w := by
  intro args w
  kernel_rfl

set_option maxRecDepth 100000 in
set_option maxHeartbeats 3200000 in
theorem reached_any (n : Nat) (Ag A : Option Addr) (cg c : Nat) (es : List Ed) (ps : List Pc) (w : World) (hn : n ≤ 31) (he : RdE w Ag es) (hel : es.length ≤ 1048576) (her : ∀ e ∈ es, (0 ≤ e.f ∧ e.f < n) ∧ (0 ≤ e.t ∧ e.t < n)) (hx : RdP w A ps) (hok : PaOk ps) (hkl : ∀ p ∈ ps, p.k.length ≤ 4294967296) :
    Calls Try.prog 81 #[.agg #[.int .i64 n, .slice Ag es.length cg], .agg #[.slice A ps.length c]] w
      (fun e w' => ∃ A1 c1 rs, e = .returned (.slice A1 n c1) ∧ RdU w' A1 rs ∧ IsU n rs (semT n (stG es) ps ps.length (ps.length - 1)) ∧ Below w.heap.size w w') := by
  have hmf : ∀ (fn : Fn) (first cap : Array Value) (w : World), (Instr.makeFunc fn first cap).run Try.prog w = .ok (.func fn first cap) w := fun _ _ _ _ => rfl
  have ka := below_alloc w (.cells #[.int .i64 n, .slice Ag es.length cg] 45)
  have p0 := heap_alloc_new w (.cells #[.int .i64 n, .slice Ag es.length cg] 45)
  obtain ⟨W1, hW1⟩ : ∃ W, w.alloc (.cells #[.int .i64 n, .slice Ag es.length cg] 45) = W := ⟨_, rfl⟩
  obtain ⟨g0, hg0⟩ : ∃ g, w.heap.size = g := ⟨_, rfl⟩
  rw [hW1] at p0 ka
  rw [hg0] at p0
  have kb := below_alloc W1 (.cells #[.slice A ps.length c] 59)
  have p1 := heap_alloc_new W1 (.cells #[.slice A ps.length c] 59)
  have p02 := blk_below kb p0
  have hb2 := below_step ka kb
  have he2 := (he.below ka).below kb
  have hx2 := (hx.keep ka).keep kb
  obtain ⟨W2, hW2⟩ : ∃ W, W1.alloc (.cells #[.slice A ps.length c] 59) = W := ⟨_, rfl⟩
  obtain ⟨g1, hg1⟩ : ∃ g, W1.heap.size = g := ⟨_, rfl⟩
  rw [hW2] at p1 p02 hb2 he2 hx2
  rw [hg1] at p1
  have b00 := blk_cell (o := 0) p02 rfl
  have b10 := blk_cell (o := 0) p1 rfl
  have C := Lib.hid (meaningOf_any A c ps n (stG es) 101 #[.pointer (some ⟨g0, 0, none⟩)] W2 hx2 hok (by omega) hkl callF_reach (fun l w' _ hb => by
    have e : (#[Value.int .u8 l] ++ #[Value.pointer (some ⟨g0, 0, none⟩)] : Array Value) = #[Value.int .u8 l, Value.pointer (some ⟨g0, 0, none⟩)] := by simp
    rw [e]
    have h := graphStep_any n Ag cg es l g0 w' hn (he2.below hb) hel (fun e he => ⟨(her e he).1, (her e he).2.1, by have := (her e he).2.2; omega⟩) (blk_cell (o := 0) (blk_below hb p02) rfl) (blk_cell (o := 1) (blk_below hb p02) rfl)
    have hu := rcN_isU n es l (by omega) her es.length (Nat.le_refl _)
    rw [List.take_of_length_le (Nat.le_refl _)] at hu
    exact h.mono (fun _ _ h => .of hu h)))
  have HB2 := Lib.hid hb2
  clear he her hx hok hkl ka kb p0 p1 p02 hb2 he2 hx2
  go_enter Try.func81, Try.ntmps81
  go_wp2_with fail
  refine C.out.mono ?_
  rintro e w3 ⟨A1, c1, rs, rfl, h1, h2, h3⟩
  go_wp2
  go_ret
  exact ⟨A1, c1, rs, rfl, h1, h2, below_step HB2.out h3⟩
end Go.Proofs.Ytgpjgigmlgoiiaa
