/- What the automaton of a path is made of: the steps under a piece, the first and the last ones, which may follow which. Plain. -/
import Derived.Test.YtjlekcoikceidaaSPathOk
import Derived.Test.YtjlekcoikceidaaMOrd
namespace Go.Proofs.Ytjlekcoikceidaa

def pc0 : Pc := ⟨0, 0, []⟩
/-- The steps met so far and the pairs of steps that may follow each other (numbers from 1). -/
structure LkS where
  labs : List Int
  prs : List (Nat × Nat)
/-- First steps, last steps, whether it may be nothing. -/
structure Lk where
  fi : List Nat
  la : List Nat
  nul : Bool
def prsOf (xs ys : List Nat) : List (Nat × Nat) := xs.flatMap fun x => ys.map fun y => (x, y)
theorem prsOf_mem {xs ys : List Nat} {a b : Nat} : (a, b) ∈ prsOf xs ys ↔ a ∈ xs ∧ b ∈ ys := by
  unfold prsOf
  rw [List.mem_flatMap]
  constructor
  · rintro ⟨x, hx, h⟩
    obtain ⟨y, hy, e⟩ := List.mem_map.1 h
    injection e with e1 e2
    subst e1 e2
    exact ⟨hx, hy⟩
  · rintro ⟨h1, h2⟩
    exact ⟨a, h1, List.mem_map.2 ⟨b, h2, rfl⟩⟩
def lkNext (op : Int) (o y : Lk) : Lk :=
  if op = 2 then ⟨if o.nul = true then o.fi ++ y.fi else o.fi, if y.nul = true then o.la ++ y.la else y.la, o.nul && y.nul⟩
  else if op = 3 then ⟨o.fi ++ y.fi, o.la ++ y.la, o.nul || y.nul⟩
  else ⟨y.fi, y.la, y.nul || !decide (op = 5)⟩
def lkPrs (op : Int) (o y : Lk) : List (Nat × Nat) := if op = 2 then prsOf o.la y.fi else if op = 3 then [] else if op = 6 then [] else prsOf y.la y.fi
def lkStep (L : Nat → LkS → Lk × LkS) (op : Int) (st : Lk × LkS) (k : Int) : Lk × LkS :=
  if 24 ≤ st.2.labs.length then st else (lkNext op st.1 (L k.toNat st.2).1, ⟨(L k.toNat st.2).2.labs, (L k.toNat st.2).2.prs ++ lkPrs op st.1 (L k.toNat st.2).1⟩)
def lkPc (L : Nat → LkS → Lk × LkS) (x : Pc) (s : LkS) : Lk × LkS :=
  if x.op = 1 then (⟨[s.labs.length + 1], [s.labs.length + 1], false⟩, ⟨s.labs ++ [x.l], s.prs⟩) else x.k.foldl (lkStep L x.op) (⟨[], [], decide (x.op = 2)⟩, s)
/-- What is known behind piece i; n: how deep to look. -/
def lk (ps : List Pc) : Nat → Nat → LkS → Lk × LkS
  | 0, _, s => (⟨[], [], false⟩, s)
  | n + 1, i, s => lkPc (lk ps n) (ps.getD i pc0) s

/-- Steps that lie behind the first c, up to d, in order. -/
def Rg (c d : Nat) (xs : List Nat) : Prop := xs.Pairwise (· < ·) ∧ ∀ x ∈ xs, c < x ∧ x ≤ d
theorem Rg.nil (c d : Nat) : Rg c d [] := ⟨List.Pairwise.nil, by simp⟩
theorem Rg.one (c : Nat) : Rg c (c + 1) [c + 1] := ⟨List.pairwise_singleton _ _, by simp⟩
theorem Rg.mono {c d d' : Nat} {xs : List Nat} (h : Rg c d xs) (hd : d ≤ d') : Rg c d' xs := ⟨h.1, fun x hx => by have := h.2 x hx; omega⟩
theorem Rg.low {c c' d : Nat} {xs : List Nat} (h : Rg c d xs) (hc : c' ≤ c) : Rg c' d xs := ⟨h.1, fun x hx => by have := h.2 x hx; omega⟩
theorem Rg.app {c d e : Nat} {xs ys : List Nat} (h : Rg c d xs) (h2 : Rg d e ys) (hcd : c ≤ d) (hde : d ≤ e) : Rg c e (xs ++ ys) := by
  refine ⟨List.pairwise_append.2 ⟨h.1, h2.1, fun x hx y hy => by have := h.2 x hx; have := h2.2 y hy; omega⟩, fun x hx => ?_⟩
  rcases List.mem_append.1 hx with hx | hx
  · have := h.2 x hx; omega
  · have := h2.2 x hx; omega
theorem lt_len : ∀ (xs : List Nat) (lo N : Nat), xs.Pairwise (· < ·) → (∀ x ∈ xs, lo ≤ x ∧ x < N) → xs.length ≤ N - lo
  | [], _, _, _, _ => Nat.zero_le _
  | x :: r, lo, N, h, hr => by
    have hx := hr x (by simp)
    rw [List.pairwise_cons] at h
    have ih := lt_len r (x + 1) N h.2 (fun y hy => ⟨h.1 y hy, (hr y (List.mem_cons_of_mem _ hy)).2⟩)
    simp only [List.length_cons]
    omega
theorem Rg.len {c d : Nat} {xs : List Nat} (h : Rg c d xs) : xs.length ≤ d := by
  have := lt_len xs 1 (d + 1) h.1 (fun x hx => by have := h.2 x hx; omega)
  omega
/-- A right state. -/
structure StOk (s : LkS) : Prop where
  len : s.labs.length ≤ 24
  lab : ∀ l ∈ s.labs, 97 ≤ l ∧ l ≤ 100
  prs : ∀ p ∈ s.prs, (1 ≤ p.1 ∧ p.1 ≤ s.labs.length) ∧ (1 ≤ p.2 ∧ p.2 ≤ s.labs.length)
/-- What looking at a piece leaves is right. -/
structure LkOk (s : LkS) (r : Lk × LkS) : Prop where
  st : StOk r.2
  pre : ∃ l, r.2.labs = s.labs ++ l
  fi : Rg s.labs.length r.2.labs.length r.1.fi
  la : Rg s.labs.length r.2.labs.length r.1.la
theorem LkOk.le {s : LkS} {r : Lk × LkS} (h : LkOk s r) : s.labs.length ≤ r.2.labs.length := by
  obtain ⟨l, e⟩ := h.pre
  rw [e, List.length_append]
  omega
theorem lkStep_stop (L : Nat → LkS → Lk × LkS) (op : Int) {st : Lk × LkS} (k : Int) (h : 24 ≤ st.2.labs.length) : lkStep L op st k = st := if_pos h
theorem lkStep_go (L : Nat → LkS → Lk × LkS) (op : Int) {st : Lk × LkS} (k : Int) (h : ¬ 24 ≤ st.2.labs.length) : lkStep L op st k = (lkNext op st.1 (L k.toNat st.2).1, ⟨(L k.toNat st.2).2.labs, (L k.toNat st.2).2.prs ++ lkPrs op st.1 (L k.toNat st.2).1⟩) := if_neg h
theorem lkNext_rg {c d e : Nat} (op : Int) {o y : Lk} (hcd : c ≤ d) (hde : d ≤ e) (of_ : Rg c d o.fi) (ol : Rg c d o.la) (yf : Rg d e y.fi) (yl : Rg d e y.la) : Rg c e (lkNext op o y).fi ∧ Rg c e (lkNext op o y).la := by
  unfold lkNext
  by_cases h2 : op = 2
  · rw [if_pos h2]
    refine ⟨?_, ?_⟩
    · show Rg c e (if o.nul = true then o.fi ++ y.fi else o.fi)
      split
      · exact of_.app yf hcd hde
      · exact of_.mono hde
    · show Rg c e (if y.nul = true then o.la ++ y.la else y.la)
      split
      · exact ol.app yl hcd hde
      · exact yl.low hcd
  · rw [if_neg h2]
    by_cases h3 : op = 3
    · rw [if_pos h3]
      exact ⟨of_.app yf hcd hde, ol.app yl hcd hde⟩
    · rw [if_neg h3]
      exact ⟨yf.low hcd, yl.low hcd⟩
theorem lkPrs_rg {c d e : Nat} (op : Int) {o y : Lk} (_hde : d ≤ e) (ol : Rg c d o.la) (yf : Rg d e y.fi) (yl : Rg d e y.la) : ∀ p ∈ lkPrs op o y, (1 ≤ p.1 ∧ p.1 ≤ e) ∧ (1 ≤ p.2 ∧ p.2 ≤ e) := by
  intro p hp
  obtain ⟨a, b⟩ := p
  unfold lkPrs at hp
  by_cases h2 : op = 2
  · rw [if_pos h2] at hp
    obtain ⟨h3, h4⟩ := prsOf_mem.1 hp
    have := ol.2 a h3
    have := yf.2 b h4
    simp only
    omega
  · rw [if_neg h2] at hp
    split at hp
    · simp at hp
    · split at hp
      · simp at hp
      · obtain ⟨h3, h4⟩ := prsOf_mem.1 hp
        have := yl.2 a h3
        have := yf.2 b h4
        simp only
        omega
theorem LkOk.step {L : Nat → LkS → Lk × LkS} {op : Int} {s : LkS} {st : Lk × LkS} {k : Int} (h : LkOk s st) (hL : ∀ s, StOk s → s.labs.length < 24 → LkOk s (L k.toNat s)) : LkOk s (lkStep L op st k) := by
  by_cases hc : 24 ≤ st.2.labs.length
  · rw [lkStep_stop L op k hc]; exact h
  · rw [lkStep_go L op k hc]
    have hy := hL st.2 h.st (by omega)
    obtain ⟨l1, e1⟩ := h.pre
    obtain ⟨l2, e2⟩ := hy.pre
    have h1 := h.le
    have h2 := hy.le
    have hn := lkNext_rg op h1 h2 h.fi h.la hy.fi hy.la
    refine ⟨⟨hy.st.len, hy.st.lab, fun p hp => ?_⟩, ⟨l1 ++ l2, by simp only; rw [e2, e1, List.append_assoc]⟩, hn.1, hn.2⟩
    rcases List.mem_append.1 hp with hp | hp
    · exact hy.st.prs p hp
    · exact lkPrs_rg op h2 h.la hy.fi hy.la p hp
theorem LkOk.fold {L : Nat → LkS → Lk × LkS} {op : Int} {s : LkS} : ∀ (ks : List Int) (st : Lk × LkS), LkOk s st → (∀ k ∈ ks, ∀ s, StOk s → s.labs.length < 24 → LkOk s (L k.toNat s)) → LkOk s (ks.foldl (lkStep L op) st)
  | [], _, h, _ => h
  | k :: r, st, h, hL => LkOk.fold r _ (h.step (hL k (by simp))) (fun k hk => hL k (List.mem_cons_of_mem _ hk))
theorem LkOk.start {s : LkS} (h : StOk s) (b : Bool) : LkOk s (⟨[], [], b⟩, s) := ⟨h, ⟨[], by simp⟩, .nil _ _, .nil _ _⟩
theorem pc_at {ps : List Pc} {i : Nat} (h : i < ps.length) : ps.getD i pc0 = ps[i] := by simp [List.getD, h]
theorem lk_ok {ps : List Pc} (hp : PaOk ps) : ∀ (n i : Nat) (s : LkS), i < n → i < ps.length → StOk s → s.labs.length < 24 → LkOk s (lk ps n i s)
  | 0, i, s, h, _, _, _ => absurd h (by omega)
  | n + 1, i, s, hi, hl, hs, hc => by
    show LkOk s (lkPc (lk ps n) (ps.getD i pc0) s)
    rw [pc_at hl]
    have ho := hp.2 i hl
    unfold lkPc
    by_cases h1 : ps[i].op = 1
    · rw [if_pos h1]
      have hlb := ho.lbl
      refine ⟨⟨by simp; omega, fun l hm => ?_, fun p hm => ?_⟩, ⟨_, rfl⟩, ?_, ?_⟩
      · rcases List.mem_append.1 hm with hm | hm
        · exact hs.lab l hm
        · have : l = ps[i].l := by simpa using hm
          omega
      · have := hs.prs p hm
        simp only [List.length_append, List.length_cons, List.length_nil]
        omega
      · simpa using Rg.one s.labs.length
      · simpa using Rg.one s.labs.length
    · rw [if_neg h1]
      refine LkOk.fold _ _ (.start hs _) (fun k hk s' hs' hc' => ?_)
      have hko := ho.kids k hk
      exact lk_ok hp n k.toNat s' (by omega) (by omega) hs' hc'
theorem lk_take {L : Nat → LkS → Lk × LkS} {op : Int} {ks : List Int} {st : Lk × LkS} {t : Nat} (h : t < ks.length) : (ks.take (t + 1)).foldl (lkStep L op) st = lkStep L op ((ks.take t).foldl (lkStep L op) st) (ks.getD t 0) := by
  rw [List.take_succ_eq_append_getElem h, List.foldl_append]
  simp [List.getD, h]
theorem lk_stuck {L : Nat → LkS → Lk × LkS} {op : Int} : ∀ (ks : List Int) (st : Lk × LkS), 24 ≤ st.2.labs.length → ks.foldl (lkStep L op) st = st
  | [], _, _ => rfl
  | k :: r, st, h => by
    rw [List.foldl_cons, lkStep_stop L op k h]
    exact lk_stuck r st h
theorem lk_stop {L : Nat → LkS → Lk × LkS} {op : Int} {ks : List Int} {st : Lk × LkS} (t : Nat) (h : 24 ≤ ((ks.take t).foldl (lkStep L op) st).2.labs.length) : (ks.take t).foldl (lkStep L op) st = ks.foldl (lkStep L op) st := by
  have e : ks.foldl (lkStep L op) st = (ks.drop t).foldl (lkStep L op) ((ks.take t).foldl (lkStep L op) st) := by rw [← List.foldl_append, List.take_append_drop]
  rw [e, lk_stuck _ _ h]
/-- The labels only grow along the kids. -/
theorem lk_grow {L : Nat → LkS → Lk × LkS} {op : Int} {s : LkS} {ks : List Int} {st : Lk × LkS} (t : Nat) (h0 : LkOk s st) (hL : ∀ k ∈ ks, ∀ s, StOk s → s.labs.length < 24 → LkOk s (L k.toNat s)) :
    ((ks.take t).foldl (lkStep L op) st).2.labs.length ≤ (ks.foldl (lkStep L op) st).2.labs.length := by
  have e : ks.foldl (lkStep L op) st = (ks.drop t).foldl (lkStep L op) ((ks.take t).foldl (lkStep L op) st) := by rw [← List.foldl_append, List.take_append_drop]
  rw [e]
  have h1 := LkOk.fold (op := op) (ks.take t) st h0 (fun k hk => hL k (List.mem_of_mem_take hk))
  have mono : ∀ (rs : List Int) (st : Lk × LkS), LkOk s st → (∀ k ∈ rs, k ∈ ks) → st.2.labs.length ≤ (rs.foldl (lkStep L op) st).2.labs.length := by
    intro rs
    induction rs with
    | nil => intro st _ _; exact Nat.le_refl _
    | cons k r ih =>
      intro st h hm
      have h2 := h.step (op := op) (hL k (hm k (by simp)))
      have h3 : st.2.labs.length ≤ (lkStep L op st k).2.labs.length := by
        by_cases hc : 24 ≤ st.2.labs.length
        · rw [lkStep_stop L op k hc]; exact Nat.le_refl _
        · rw [lkStep_go L op k hc]
          exact (hL k (hm k (by simp)) st.2 h.st (by omega)).le
      exact Nat.le_trans h3 (ih _ h2 (fun k hk => hm k (List.mem_cons_of_mem _ hk)))
  exact mono _ _ h1 (fun k hk => List.mem_of_mem_drop hk)

/-- How many steps there are, told by the pieces in front; never above 24. -/
def pcCnt (cs : List Nat) (x : Pc) : Nat := x.k.foldl (fun a z => min (a + cs.getD z.toNat 0) 24) (if x.op = 1 then 1 else 0)
def cntL (ps : List Pc) : Nat → List Nat
  | 0 => []
  | k + 1 => cntL ps k ++ [pcCnt (cntL ps k) (ps.getD k pc0)]
theorem cntL_len (ps : List Pc) : ∀ k, (cntL ps k).length = k
  | 0 => rfl
  | k + 1 => by unfold cntL; rw [List.length_append, cntL_len ps k]; rfl
theorem cntL_at (ps : List Pc) (i : Nat) : ∀ k, i < k → (cntL ps k).getD i 0 = pcCnt (cntL ps i) (ps.getD i pc0)
  | 0, h => absurd h (by omega)
  | k + 1, h => by
    have hl := cntL_len ps k
    show (cntL ps k ++ [pcCnt (cntL ps k) (ps.getD k pc0)]).getD i 0 = _
    by_cases e : i = k
    · subst e
      simp only [List.getD]
      rw [List.getElem?_append_right (by omega), hl]
      simp
    · have ih := cntL_at ps i k (by omega)
      rw [← ih]
      simp only [List.getD]
      rw [List.getElem?_append_left (by omega)]
def toM (n : Nat) : Nat := min n 24
theorem cnt_fold {ps : List Pc} {n m : Nat} {op : Int} {c : Nat}
    (hk : ∀ (k : Int) (s : LkS), 0 ≤ k → k < m → StOk s → s.labs.length < 24 → LkOk s (lk ps n k.toNat s) ∧ toM (lk ps n k.toNat s).2.labs.length = toM (s.labs.length + (cntL ps m).getD k.toNat 0)) :
    ∀ (ks : List Int) (st : Lk × LkS) (s0 : LkS) (a : Nat), (∀ z ∈ ks, 0 ≤ z ∧ z < m) → LkOk s0 st → toM st.2.labs.length = toM (c + a) → toM (ks.foldl (lkStep (lk ps n) op) st).2.labs.length = toM (c + ks.foldl (fun a z => min (a + (cntL ps m).getD z.toNat 0) 24) a)
  | [], _, _, _, _, _, h => h
  | k :: r, st, s0, a, hz, h0, h => by
    rw [List.foldl_cons, List.foldl_cons]
    obtain ⟨z0, z1⟩ := hz k (by simp)
    refine cnt_fold hk r _ s0 _ (fun z hz' => hz z (List.mem_cons_of_mem _ hz')) (h0.step (fun s hs hc => (hk k s z0 z1 hs hc).1)) ?_
    by_cases hc : 24 ≤ st.2.labs.length
    · rw [lkStep_stop _ op k hc]
      unfold toM at h ⊢
      omega
    · rw [lkStep_go _ op k hc]
      have h2 := (hk k st.2 z0 z1 h0.st (by omega)).2
      unfold toM at h h2 ⊢
      simp only
      omega
theorem lk_cnt {ps : List Pc} (hp : PaOk ps) : ∀ (n i : Nat) (s : LkS), i < n → i < ps.length → StOk s → s.labs.length < 24 → toM (lk ps n i s).2.labs.length = toM (s.labs.length + pcCnt (cntL ps i) (ps.getD i pc0))
  | 0, i, s, h, _, _, _ => absurd h (by omega)
  | n + 1, i, s, hi, hl, hs, hc => by
    show toM (lkPc (lk ps n) (ps.getD i pc0) s).2.labs.length = _
    rw [pc_at hl]
    have ho := hp.2 i hl
    unfold lkPc pcCnt
    by_cases h1 : ps[i].op = 1
    · rw [if_pos h1, if_pos h1]
      have hk : ps[i].k = [] := List.eq_nil_of_length_eq_zero (ho.step h1).2
      rw [hk]
      simp
    · rw [if_neg h1, if_neg h1]
      refine cnt_fold (fun k s' k0 k1 hs' hc' => ⟨lk_ok hp n k.toNat s' (by omega) (by omega) hs' hc', ?_⟩) ps[i].k (⟨[], [], decide (ps[i].op = 2)⟩, s) s 0 (fun z hz => ho.kids z hz) (.start hs _) rfl
      have h2 := lk_cnt hp n k.toNat s' (by omega) (by omega) hs' hc'
      rw [h2, cntL_at ps k.toNat i (by omega)]
/-- The whole path. -/
def lkAll (ps : List Pc) : Lk × LkS := lk ps ps.length (ps.length - 1) ⟨[], []⟩
theorem StOk.nil : StOk ⟨[], []⟩ := ⟨by simp, by simp, by simp⟩
theorem lkAll_ok {ps : List Pc} (hp : PaOk ps) : LkOk ⟨[], []⟩ (lkAll ps) := lk_ok hp _ _ _ (by have := hp.1.1; omega) (by have := hp.1.1; omega) .nil (by simp)
def occ (ps : List Pc) : Nat := (cntL ps ps.length).getD (ps.length - 1) 0
theorem occ_iff {ps : List Pc} (hp : PaOk ps) : 24 ≤ occ ps ↔ 24 ≤ (lkAll ps).2.labs.length := by
  have h0 := hp.1.1
  have h := lk_cnt hp ps.length (ps.length - 1) ⟨[], []⟩ (by omega) (by omega) .nil (by simp)
  rw [← cntL_at ps (ps.length - 1) ps.length (by omega)] at h
  unfold toM at h
  unfold occ lkAll
  simp only [List.length_nil] at h
  omega

/-- The arcs that pairs of steps are. -/
def arcOf (labs : List Int) (p : Nat × Nat) : Ed := ⟨p.1, labs.getD (p.2 - 1) 0, p.2⟩
def arcsFrom (labs : List Int) (es : List Ed) (prs : List (Nat × Nat)) : List Ed := prs.foldl (fun es p => putE es (arcOf labs p)) es
def arcsOf (labs : List Int) (prs : List (Nat × Nat)) : List Ed := arcsFrom labs [] prs
theorem arcsFrom_app (labs : List Int) (es : List Ed) (p q : List (Nat × Nat)) : arcsFrom labs es (p ++ q) = arcsFrom labs (arcsFrom labs es p) q := List.foldl_append
theorem arcsOf_app (labs : List Int) (p q : List (Nat × Nat)) : arcsOf labs (p ++ q) = arcsFrom labs (arcsOf labs p) q := arcsFrom_app labs [] p q
theorem arcOf_app {labs l : List Int} {p : Nat × Nat} (h : 1 ≤ p.2 ∧ p.2 ≤ labs.length) : arcOf (labs ++ l) p = arcOf labs p := by
  unfold arcOf
  simp only [List.getD]
  rw [List.getElem?_append_left (by omega)]
theorem arcsFrom_more {labs l : List Int} : ∀ (prs : List (Nat × Nat)) (es : List Ed), (∀ p ∈ prs, 1 ≤ p.2 ∧ p.2 ≤ labs.length) → arcsFrom (labs ++ l) es prs = arcsFrom labs es prs
  | [], _, _ => rfl
  | p :: r, es, h => by
    unfold arcsFrom
    rw [List.foldl_cons, List.foldl_cons, arcOf_app (h p (by simp))]
    exact arcsFrom_more r _ (fun q hq => h q (List.mem_cons_of_mem _ hq))
theorem arcsOf_more {s : LkS} (h : StOk s) (l : List Int) : arcsOf (s.labs ++ l) s.prs = arcsOf s.labs s.prs := arcsFrom_more _ _ (fun p hp => (h.prs p hp).2)
theorem asc_arcsFrom {labs : List Int} : ∀ (prs : List (Nat × Nat)) (es : List Ed), Asc es → Asc (arcsFrom labs es prs)
  | [], _, h => h
  | _ :: r, _, h => asc_arcsFrom r _ (asc_put h _)
theorem asc_arcsOf (labs : List Int) (prs : List (Nat × Nat)) : Asc (arcsOf labs prs) := asc_arcsFrom prs [] List.Pairwise.nil
theorem mem_arcsFrom {labs : List Int} {y : Ed} : ∀ (prs : List (Nat × Nat)) (es : List Ed), y ∈ arcsFrom labs es prs ↔ y ∈ es ∨ ∃ p ∈ prs, y = arcOf labs p
  | [], es => by simp [arcsFrom]
  | p :: r, es => by
    unfold arcsFrom
    rw [List.foldl_cons]
    have ih := mem_arcsFrom (labs := labs) (y := y) r (putE es (arcOf labs p))
    unfold arcsFrom at ih
    rw [ih, mem_put]
    constructor
    · rintro ((h | h) | ⟨q, hq, h⟩)
      · exact .inr ⟨p, by simp, h⟩
      · exact .inl h
      · exact .inr ⟨q, List.mem_cons_of_mem _ hq, h⟩
    · rintro (h | ⟨q, hq, h⟩)
      · exact .inl (.inr h)
      · rcases List.mem_cons.1 hq with rfl | hq
        · exact .inl (.inl h)
        · exact .inr ⟨q, hq, h⟩
theorem mem_arcsOf {labs : List Int} {prs : List (Nat × Nat)} {y : Ed} : y ∈ arcsOf labs prs ↔ ∃ p ∈ prs, y = arcOf labs p := by
  unfold arcsOf
  rw [mem_arcsFrom]
  simp
/-- An arc in its range. -/
def ArOk (n : Nat) (e : Ed) : Prop := (0 ≤ e.f ∧ e.f ≤ n) ∧ (97 ≤ e.l ∧ e.l ≤ 100) ∧ (1 ≤ e.t ∧ e.t ≤ n)
theorem lab_at {labs : List Int} (h : ∀ l ∈ labs, 97 ≤ l ∧ l ≤ 100) {j : Nat} (hj : j < labs.length) : 97 ≤ labs.getD j 0 ∧ labs.getD j 0 ≤ 100 := by
  have e : labs.getD j 0 = labs[j] := by simp [List.getD, hj]
  rw [e]
  exact h _ (List.getElem_mem hj)
theorem arOk_of {labs : List Int} (h : ∀ l ∈ labs, 97 ≤ l ∧ l ≤ 100) {p : Nat × Nat} (h1 : p.1 ≤ labs.length) (h2 : 1 ≤ p.2 ∧ p.2 ≤ labs.length) : ArOk labs.length (arcOf labs p) := by
  have := lab_at h (j := p.2 - 1) (by omega)
  unfold arcOf ArOk
  simp only
  omega
theorem arcs_len {n : Nat} {es : List Ed} (hn : n ≤ 24) (h : Asc es) (hr : ∀ e ∈ es, ArOk n e) : es.length ≤ 1638400 := by
  have h1 := lt_len (es.map (fun e => e.f.toNat * 65536 + e.l.toNat * 256 + e.t.toNat)) 0 1638400 (by
    rw [List.pairwise_map]
    refine h.imp_of_mem ?_
    intro a b ha hb hab
    have h1 := hr a ha
    have h2 := hr b hb
    have h3 := (edLess_iff a b).1 hab
    unfold ArOk at h1 h2
    omega) (by
    intro x hx
    obtain ⟨e, he, rfl⟩ := List.mem_map.1 hx
    have h1 := hr e he
    unfold ArOk at h1
    omega)
  simpa using h1
end Go.Proofs.Ytjlekcoikceidaa
