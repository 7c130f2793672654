/- Together: graphs laid together. Plain. -/
import Derived.Test.YtlnphcongijfiaaEdOrd
import Derived.Test.YtlnphcongijfiaaGrS
namespace Go.Proofs.Ytlnphcongijfiaa
open Go.RowKit

def putL (es xs : List Ed) : List Ed := xs.foldl putE es
def putG (gs : List Gr) : List Ed := gs.foldl (fun out g => putL out g.e) []
def s0G (gs : List Gr) : Int := (gs.getD 0 default).s
/-- Graphs that can be laid together. -/
def tgOk (gs : List Gr) : Prop := 0 < gs.length ∧ (∀ k (h : k < gs.length), GOk gs[k].s gs[k].e ∧ gs[k].s = s0G gs) ∧ GOk (s0G gs) (putG gs)
noncomputable def tgB (gs : List Gr) : Bool := PP (tgOk gs)
noncomputable def tgS (gs : List Gr) : Int := if tgB gs = true then s0G gs else 0
noncomputable def tgL (gs : List Gr) : List Ed := if tgB gs = true then putG gs else []
theorem putL_next {es xs : List Ed} {m : Nat} (h : m < xs.length) : putL es (xs.take (m + 1)) = putE (putL es (xs.take m)) xs[m] := by
  unfold putL
  rw [List.take_succ_eq_append_getElem h, List.foldl_append]
  rfl
theorem putG_next {gs : List Gr} {k : Nat} (h : k < gs.length) : putG (gs.take (k + 1)) = putL (putG (gs.take k)) gs[k].e := by
  unfold putG
  rw [List.take_succ_eq_append_getElem h, List.foldl_append]
  rfl
theorem putL_len : ∀ (xs es : List Ed), (putL es xs).length ≤ es.length + xs.length
  | [], _ => Nat.le_refl _
  | x :: xs, es => by
    have h1 := putL_len xs (putE es x)
    have h2 := (put_len es x).1
    simp only [putL, List.foldl_cons, List.length_cons] at h1 ⊢
    omega
theorem putL_asc : ∀ (xs es : List Ed), Asc es → Asc (putL es xs)
  | [], _, h => h
  | x :: xs, es, h => putL_asc xs (putE es x) (asc_put h x)
theorem mem_putL {y : Ed} : ∀ (xs es : List Ed), y ∈ putL es xs ↔ y ∈ es ∨ y ∈ xs
  | [], es => by simp [putL]
  | x :: xs, es => by
    have h := mem_putL (y := y) xs (putE es x)
    rw [mem_put] at h
    simp only [putL, List.foldl_cons, List.mem_cons] at h ⊢
    rw [h]
    constructor
    · rintro ((h | h) | h)
      · exact .inr (.inl h)
      · exact .inl h
      · exact .inr (.inr h)
    · rintro (h | h | h)
      · exact .inl (.inr h)
      · exact .inl (.inl h)
      · exact .inr h
theorem put_more {es : List Ed} (h : Asc es) (x : Ed) : es.length ≤ (putE es x).length := by
  by_cases hx : x ∈ es
  · rw [put_same h hx]; exact Nat.le_refl _
  · have h1 : ∀ es : List Ed, x ∉ es → es.length ≤ (es.filter (fun y => edLess y x)).length + (es.filter (fun y => edLess x y)).length := by
      intro es
      induction es with
      | nil => intro _; simp
      | cons y ys ih =>
        intro hn
        have h2 := ih (fun h => hn (List.mem_cons_of_mem _ h))
        have h3 : x ≠ y := fun e => hn (by rw [e]; exact List.mem_cons_self ..)
        rcases edLess_tri x y with h4 | h4 | h4
        · rw [List.filter_cons_of_pos (p := fun y => edLess x y) h4, List.filter_cons_of_neg (p := fun y => edLess y x) (by rw [edLess_asymm h4]; simp)]
          simp only [List.length_cons]; omega
        · exact absurd h4 h3
        · rw [List.filter_cons_of_pos (p := fun y => edLess y x) h4, List.filter_cons_of_neg (p := fun y => edLess x y) (by rw [edLess_asymm h4]; simp)]
          simp only [List.length_cons]; omega
    have h2 := h1 es hx
    unfold putE
    simp only [List.length_append, List.length_cons, List.length_nil]
    omega
theorem putL_more : ∀ (xs es : List Ed), Asc es → es.length ≤ (putL es xs).length
  | [], _, _ => Nat.le_refl _
  | x :: xs, es, h => Nat.le_trans (put_more h x) (putL_more xs (putE es x) (asc_put h x))
def putF (gs : List Gr) (es : List Ed) : List Ed := gs.foldl (fun out g => putL out g.e) es
theorem putF_more : ∀ (gs : List Gr) (es : List Ed), Asc es → es.length ≤ (putF gs es).length
  | [], _, _ => Nat.le_refl _
  | g :: gs, es, h => Nat.le_trans (putL_more g.e es h) (putF_more gs (putL es g.e) (putL_asc _ _ h))
theorem putF_asc : ∀ (gs : List Gr) (es : List Ed), Asc es → Asc (putF gs es)
  | [], _, h => h
  | g :: gs, es, h => putF_asc gs (putL es g.e) (putL_asc _ _ h)
theorem mem_putF {y : Ed} : ∀ (gs : List Gr) (es : List Ed), y ∈ putF gs es ↔ y ∈ es ∨ ∃ g ∈ gs, y ∈ g.e
  | [], es => by simp [putF]
  | g :: gs, es => by
    have h := mem_putF (y := y) gs (putL es g.e)
    rw [mem_putL] at h
    simp only [putF, List.foldl_cons, List.mem_cons] at h ⊢
    rw [h]
    constructor
    · rintro ((h | h) | ⟨g', h1, h2⟩)
      · exact .inl h
      · exact .inr ⟨g, .inl rfl, h⟩
      · exact .inr ⟨g', .inr h1, h2⟩
    · rintro (h | ⟨g', rfl | h1, h2⟩)
      · exact .inl (.inl h)
      · exact .inl (.inr h2)
      · exact .inr ⟨g', h1, h2⟩
theorem asc_nil : Asc [] := List.Pairwise.nil
theorem putF_drop (gs : List Gr) (k : Nat) : putG gs = putF (gs.drop k) (putG (gs.take k)) := by
  unfold putG putF
  rw [← List.foldl_append, List.take_append_drop]
theorem putG_asc (gs : List Gr) : Asc (putG gs) := putF_asc gs [] asc_nil
/-- What is gathered halfway is a part of what is gathered. -/
theorem half_put {gs : List Gr} {k m : Nat} (h : k < gs.length) : Asc (putL (putG (gs.take k)) (gs[k].e.take m)) ∧ (putL (putG (gs.take k)) (gs[k].e.take m)).length ≤ (putG gs).length ∧ ∀ y ∈ putL (putG (gs.take k)) (gs[k].e.take m), y ∈ putG gs := by
  have e1 : putG gs = putF (gs.drop (k + 1)) (putL (putL (putG (gs.take k)) (gs[k].e.take m)) (gs[k].e.drop m)) := by
    rw [putF_drop gs (k + 1), putG_next h]
    congr 1
    unfold putL
    rw [← List.foldl_append, List.take_append_drop]
  have ha : Asc (putL (putG (gs.take k)) (gs[k].e.take m)) := putL_asc _ _ (putG_asc _)
  refine ⟨ha, ?_, fun y hy => ?_⟩
  · rw [e1]
    exact Nat.le_trans (putL_more _ _ ha) (putF_more _ _ (putL_asc _ _ ha))
  · rw [e1, mem_putF, mem_putL]
    exact .inl (.inl hy)
theorem half_ok {gs : List Gr} {k m : Nat} (h : k < gs.length) (ht : tgOk gs) : GOk (s0G gs) (putL (putG (gs.take k)) (gs[k].e.take m)) := by
  obtain ⟨h1, h2, h3⟩ := half_put (m := m) h
  obtain ⟨_, _, hg⟩ := ht
  rw [gOk_iff] at hg ⊢
  exact ⟨hg.1, by omega, fun e he => hg.2.2.1 e (h3 e he), h1⟩
theorem lbl_of {s : Int} {es : List Ed} (h : GOk s es) : ∀ e ∈ es, 0 ≤ e.l ∧ e.l ≤ 255 := by
  intro e he
  have := ((gOk_iff.1 h).2.2.1 e he).2.2
  unfold lblB at this
  simp at this
  omega
theorem putG_len : ∀ (gs : List Gr), (putG gs).length ≤ sumG gs := by
  have h : ∀ (gs : List Gr) (es : List Ed), (putF gs es).length ≤ es.length + sumG gs := by
    intro gs
    induction gs with
    | nil => intro es; simp [putF]
    | cons g gs ih =>
      intro es
      have h1 := ih (putL es g.e)
      have h2 := putL_len g.e es
      simp only [putF, sumG, List.foldl_cons, List.map_cons, List.sum_cons] at h1 ⊢
      omega
  intro gs
  have := h gs []
  simpa [putF, putG] using this
theorem half_len {gs : List Gr} {k m : Nat} (h : k < gs.length) : (putL (putG (gs.take k)) (gs[k].e.take m)).length ≤ sumG gs := Nat.le_trans (half_put h).2.1 (putG_len gs)
theorem putG_lbl {gs : List Gr} (h : ∀ g ∈ gs, ∀ e ∈ g.e, 0 ≤ e.l ∧ e.l ≤ 255) : ∀ e ∈ putG gs, 0 ≤ e.l ∧ e.l ≤ 255 := by
  intro e he
  have h1 : e ∈ putF gs [] := he
  rw [mem_putF] at h1
  rcases h1 with h1 | ⟨g, hg, h1⟩
  · simp at h1
  · exact h g hg e h1
/-- What a call that lays graphs together leaves. -/
def TgOut (w : World) (gs : List Gr) (e : Ending) (w' : World) : Prop := MadeT w (tgS gs) (tgL gs) (tgB gs) e w'
theorem TgOut.no {w w' : World} {gs : List Gr} (h : ¬ tgOk gs) (hb : Below w.heap.size w w') : TgOut w gs (.returned (.tuple #[.agg #[.int .i64 0, .slice none 0 0], .bool false])) w' := by
  have e : tgB gs = false := PP_no h
  unfold TgOut tgS tgL
  rw [e]
  exact ⟨none, 0, rfl, World.ownsRow_nil _ _ _ _, hb⟩
theorem TgOut.yes {w w' : World} {gs : List Gr} {ks : List Ed} {A : Option Addr} {c : Nat} {s : Int} (h : tgOk gs) (hk : ks = putG gs) (hs : s = s0G gs) (ho : w'.ownsRow w.heap.size 62 3 (.slice A ks.length c) ks.length (edCells ks)) (hb : Below w.heap.size w w') : TgOut w gs (.returned (.tuple #[.agg #[.int .i64 s, .slice A ks.length c], .bool true])) w' := by
  have e : tgB gs = true := PP_yes h
  subst hk hs
  unfold TgOut tgS tgL
  rw [e]
  exact ⟨A, c, rfl, ho, hb⟩
/-- What the loops keep: the result's block, the block of the graph that is made, its edges. -/
structure TgI (w : World) (s : Int) (A : Option Addr) (c : Nat) (ks : List Ed) (wr : World) : Prop where
  res : wr.heap[w.heap.size]? = some (.cells #[.int .i64 0, .slice none 0 0] 44 (0, 0))
  out : wr.heap[w.heap.size + 1]? = some (.cells #[.int .i64 s, .slice A ks.length c] 44 (0, 0))
  own : wr.ownsRow (w.heap.size + 2) 62 3 (.slice A ks.length c) ks.length (edCells ks)
  bel : Below w.heap.size w wr
theorem TgI.keep {w wr w' : World} {s : Int} {A : Option Addr} {c : Nat} {ks : List Ed} (h : TgI w s A c ks wr) (hb : Below wr.heap.size wr w') : TgI w s A c ks w' := ⟨blk_below hb h.res, blk_below hb h.out, own_below h.own hb, below_step h.bel hb⟩
theorem TgI.start (w : World) (s : Int) : TgI w s none 0 [] ((w.alloc (.cells #[.int .i64 0, .slice none 0 0] 44)).alloc (.cells #[.int .i64 s, .slice none 0 0] 44)) := by
  refine ⟨blk_below (below_alloc _ _) (heap_alloc_new w _), ?_, World.ownsRow_nil _ _ _ _, below_step (below_alloc _ _) (below_alloc _ _)⟩
  have := heap_alloc_new (w.alloc (.cells #[.int .i64 0, .slice none 0 0] 44)) (.cells #[.int .i64 s, .slice none 0 0] 44)
  simpa using this
/-- The edges are turned: only the second cell is laid anew. -/
theorem TgI.put {w wr w' : World} {s : Int} {A A1 : Option Addr} {c c1 : Nat} {ks ls : List Ed} (h : TgI w s A c ks wr) (hl : w.heap.size + 2 ≤ wr.heap.size) (hb : Below wr.heap.size wr w') (ho : w'.ownsRow wr.heap.size 62 3 (.slice A1 ls.length c1) ls.length (edCells ls)) :
    TgI w s A1 c1 ls (w'.setCell ⟨w.heap.size + 1, 1, none⟩ (.slice A1 ls.length c1)) := by
  have k := h.keep hb
  refine ⟨?_, ?_, own_mono (ownsRow_setCell_below ho (by show w.heap.size + 1 < wr.heap.size; omega) _) (by omega), k.bel.setCell (by show w.heap.size ≤ w.heap.size + 1; omega) _⟩
  · rw [Below.heap_setCell _ _ _ _ (by show w.heap.size ≠ w.heap.size + 1; omega)]; exact k.res
  · have := k.out
    simp [World.setCell, Array.getElem?_modify, this]
/-- Both cells are laid anew. -/
theorem TgI.put2 {w wr w' : World} {s : Int} {A A1 : Option Addr} {c c1 : Nat} {ks ls : List Ed} (h : TgI w s A c ks wr) (hl : w.heap.size + 2 ≤ wr.heap.size) (hb : Below wr.heap.size wr w') (ho : w'.ownsRow wr.heap.size 62 3 (.slice A1 ls.length c1) ls.length (edCells ls)) :
    TgI w s A1 c1 ls ((w'.setCell ⟨w.heap.size + 1, 0, none⟩ (.int .i64 s)).setCell ⟨w.heap.size + 1, 1, none⟩ (.slice A1 ls.length c1)) := by
  have k := h.keep hb
  refine ⟨?_, ?_, own_mono (ownsRow_setCell_below (ownsRow_setCell_below ho (by show w.heap.size + 1 < wr.heap.size; omega) _) (by show w.heap.size + 1 < wr.heap.size; omega) _) (by omega), (k.bel.setCell (by show w.heap.size ≤ w.heap.size + 1; omega) _).setCell (by show w.heap.size ≤ w.heap.size + 1; omega) _⟩
  · rw [Below.heap_setCell _ _ _ _ (by show w.heap.size ≠ w.heap.size + 1; omega), Below.heap_setCell _ _ _ _ (by show w.heap.size ≠ w.heap.size + 1; omega)]; exact k.res
  · have := k.out
    simp [World.setCell, Array.getElem?_modify, this]
end Go.Proofs.Ytlnphcongijfiaa
