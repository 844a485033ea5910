/- The drawn breakers. -/
import Derived.Test.YtcgnaokpdlbhbaaBreaker
import Derived.Deep.RegionWith
namespace Go.Proofs.Ytcgnaokpdlbhbaa
open Go.ChangeShapes Go.WideShapes Go.ChangeAt Go.RowKit
set_option linter.unusedVariables false

theorem blk5 {w : World} {L : Nat} {a b c d e : Value} {t : TypeId} (h : w.heap[L]? = some (.cells #[a, b, c, d, e] t (0, 0))) :
    w.cell? ⟨L, 0, none⟩ = some a ∧ w.cell? ⟨L, 1, none⟩ = some b ∧ w.cell? ⟨L, 2, none⟩ = some c ∧ w.cell? ⟨L, 3, none⟩ = some d ∧ w.cell? ⟨L, 4, none⟩ = some e ∧
    w.frozen? ⟨L, 0, none⟩ = false ∧ w.frozen? ⟨L, 1, none⟩ = false ∧ w.frozen? ⟨L, 2, none⟩ = false ∧ w.frozen? ⟨L, 3, none⟩ = false ∧ w.frozen? ⟨L, 4, none⟩ = false := by
  refine ⟨?_, ?_, ?_, ?_, ?_, frozen_of_row w L 0 _ _ h, frozen_of_row w L 1 _ _ h, frozen_of_row w L 2 _ _ h, frozen_of_row w L 3 _ _ h, frozen_of_row w L 4 _ _ h⟩
  all_goals (rw [cell_of_row w L _ _ _ _ h]; rfl)
theorem keepB {w w' : World} {r L : Nat} {o : Obj} (hg : w.grownBy w' (some r)) (h : w.heap[L]? = some o) (hne : L ≠ r) : w'.heap[L]? = some o :=
  (hg.block L (Array.getElem?_eq_some_iff.1 h).1 (by simpa using hne)).trans h
theorem keepA {w : World} {L : Nat} {o : Obj} (h : w.heap[L]? = some o) (x : Obj) : (w.alloc x).heap[L]? = some o :=
  (Below.heap_alloc w x L (Array.getElem?_eq_some_iff.1 h).1).trans h
theorem keepS {w : World} {L L' j : Nat} {o : Obj} (h : w.heap[L]? = some o) (hne : L ≠ L') (u : Value) : (w.setCell ⟨L', j, none⟩ u).heap[L]? = some o :=
  (heap_setCell_other w ⟨L', j, none⟩ L u hne).trans h

def bdB (b : Bk) : Prop := -1000 ≤ b.limit ∧ b.limit ≤ 2000 ∧ -1000 ≤ b.rest ∧ b.rest ≤ 2000 ∧ -1000 ≤ b.state ∧ b.state ≤ 2000 ∧ -1000 ≤ b.fails ∧ b.fails ≤ 2000 ∧ -1000 ≤ b.since ∧ b.since ≤ 2000
def AnyBk (B : Nat) (w : World) (r : Nat) (sl : Value) (K : Nat) (e : Ending) (w' : World) : Prop :=
  ∃ b : Bk, e = .returned (.agg #[.int .i64 b.limit, .int .i64 b.rest, .int .i64 b.state, .int .i64 b.fails, .int .i64 b.since]) ∧ bdB b ∧ RS B w' r sl (K + 10) ∧ w.grownBy w' (some r)

theorem RS.set {B : Nat} {w : World} {r : Nat} {sl : Value} {K L j : Nat} (h : RS B w r sl K) (hL : L ≠ r) (hB : B ≤ L) (u : Value) : RS B (w.setCell ⟨L, j, none⟩ u) r sl K :=
  h.grown (row := some L) ⟨rfl, rfl, rfl, by simp [World.setCell], fun k hk hne => heap_setCell_other w _ k _ (fun e => hne (by simp [e]))⟩ (fun g hg => by simp at hg; subst hg; exact ⟨hB, hL⟩)
theorem grown_set {a w : World} {row : Option Nat} {L j : Nat} (h : a.grownBy w row) (hL : a.heap.size ≤ L) (u : Value) : a.grownBy (w.setCell ⟨L, j, none⟩ u) row :=
  grown_trans h (row' := some L) ⟨rfl, rfl, rfl, by simp [World.setCell], fun k hk hne => heap_setCell_other w _ k _ (fun e => hne (by simp [e]))⟩ (fun g hg => by simp at hg; omega)
theorem grown_alloc {a w : World} {row : Option Nat} (h : a.grownBy w row) (o : Obj) : a.grownBy (w.alloc o) row :=
  grown_trans h (World.grownBy_alloc w o none) (fun g hg => by simp at hg)

/-- What holds while a breaker is drawn: its block L, the result's block, the reader. -/
structure AB (B : Nat) (w W : World) (r : Nat) (sl : Value) (K L : Nat) (b : Bk) : Prop where
  rs : RS B W r sl K
  grow : w.grownBy W (some r)
  h0 : W.heap[w.heap.size]? = some (.cells #[.int .i64 0, .int .i64 0, .int .i64 0, .int .i64 0, .int .i64 0] 25 (0, 0))
  hL : W.heap[L]? = some (.cells #[.int .i64 b.limit, .int .i64 b.rest, .int .i64 b.state, .int .i64 b.fails, .int .i64 b.since] 25 (0, 0))
  rlt : r < w.heap.size
  lo : w.heap.size < L
  bd : bdB b
section
variable {B : Nat} {w W W' : World} {r : Nat} {sl : Value} {K L : Nat} {b : Bk}
theorem AB.pick (h : AB B w W r sl K L b) (hr : RS B W' r sl (K + 1)) (hg : W.grownBy W' (some r)) : AB B w W' r sl (K + 1) L b :=
  ⟨hr, grown_trans h.grow hg (fun g hg => .inr hg), keepB hg h.h0 (by have := h.rlt; omega), keepB hg h.hL (by have := h.rlt; have := h.lo; omega), h.rlt, h.lo, h.bd⟩
theorem AB.alloc (h : AB B w W r sl K L b) (o : Obj) : AB B w (W.alloc o) r sl K L b :=
  ⟨h.rs.alloc o, grown_alloc h.grow o, keepA h.h0 o, keepA h.hL o, h.rlt, h.lo, h.bd⟩
theorem AB.set (h : AB B w W r sl K L b) {b' : Bk} (j : Nat) (u : Int) (hb : (#[.int .i64 b.limit, .int .i64 b.rest, .int .i64 b.state, .int .i64 b.fails, .int .i64 b.since] : Array Value).setIfInBounds j (.int .i64 u) = #[.int .i64 b'.limit, .int .i64 b'.rest, .int .i64 b'.state, .int .i64 b'.fails, .int .i64 b'.since]) (hd : bdB b') : AB B w (W.setCell ⟨L, j, none⟩ (.int .i64 u)) r sl K L b' :=
  ⟨h.rs.set (by have := h.rlt; have := h.lo; omega) (by have := h.rlt; have := h.lo; have := h.rs.base; omega) _, grown_set h.grow (by have := h.lo; omega) _, keepS h.h0 (by have := h.lo; omega) _, by rw [heap_setCell_same W L j _ _ _ h.hL, hb], h.rlt, h.lo, hd⟩
theorem AB.fin (h : AB B w W r sl K L b) (u0 u1 u2 u3 u4 : Value) :
    RS B (((((W.setCell ⟨w.heap.size, 0, none⟩ u0).setCell ⟨w.heap.size, 1, none⟩ u1).setCell ⟨w.heap.size, 2, none⟩ u2).setCell ⟨w.heap.size, 3, none⟩ u3).setCell ⟨w.heap.size, 4, none⟩ u4) r sl K ∧
    w.grownBy (((((W.setCell ⟨w.heap.size, 0, none⟩ u0).setCell ⟨w.heap.size, 1, none⟩ u1).setCell ⟨w.heap.size, 2, none⟩ u2).setCell ⟨w.heap.size, 3, none⟩ u3).setCell ⟨w.heap.size, 4, none⟩ u4) (some r) := by
  have h1 : w.heap.size ≠ r := by have := h.rlt; omega
  have h2 : B ≤ w.heap.size := by have := h.rlt; have := h.rs.base; omega
  exact ⟨((((h.rs.set h1 h2 _).set h1 h2 _).set h1 h2 _).set h1 h2 _).set h1 h2 _, grown_set (grown_set (grown_set (grown_set (grown_set h.grow (Nat.le_refl _) _) (Nat.le_refl _) _) (Nat.le_refl _) _) (Nat.le_refl _) _) (Nat.le_refl _) _⟩
end

set_option maxHeartbeats 4000000 in
theorem anyBreaker_calls {B : Nat} {r : Nat} {sl : Value} {K : Nat} (w : World) (h : RS B w r sl K) (hK : K ≤ 100000) :
    Calls Try.prog 52 #[.pointer (some ⟨r, 0, none⟩)] w (AnyBk B w r sl K) := by
  have hrlt := h.lt
  have hne : w.heap.size ≠ r := by omega
  have H0 : (w.alloc (.cells #[.int .i64 0, .int .i64 0, .int .i64 0, .int .i64 0, .int .i64 0] 25)).heap[w.heap.size]? = some (.cells #[.int .i64 0, .int .i64 0, .int .i64 0, .int .i64 0, .int .i64 0] 25 (0, 0)) := heap_alloc_new w _
  have H0 := Lib.hid H0
  go_enter Try.func52, Try.ntmps52
  go_wp2_with fail
  refine (one1 [2, 3, 1, 8] rfl ((h.alloc _).alloc _) (by omega) (lit_heap' [2, 3, 1, 8] (by simp)) (by simp) (by simp)).mono ?_
  rintro e w1 ⟨l, hl, rfl, R1, G1⟩
  have G1' : w.grownBy w1 (some r) := grown_trans (grown_trans (World.grownBy_alloc w _ (some r)) (World.grownBy_alloc _ _ none) (fun g hg => by simp at hg)) G1 (fun g hg => .inr hg)
  have H1 := Lib.hid (keepB G1 (keepA H0.out _) hne)
  have hl' : 1 ≤ l ∧ l ≤ 8 := by simp at hl; omega
  clear hl G1 H0
  go_wp2_with fail
  refine (one1 [10, 20, 1, 1000] rfl (R1.alloc _) (by omega) (lit_heap' [10, 20, 1, 1000] (by simp)) (by simp) (by simp)).mono ?_
  rintro e w2 ⟨re, hr, rfl, R2, G2⟩
  have G2' : w.grownBy w2 (some r) := grown_trans (grown_trans G1' (World.grownBy_alloc _ _ none) (fun g hg => by simp at hg)) G2 (fun g hg => .inr hg)
  have H2 := Lib.hid (keepB G2 (keepA H1.out _) hne)
  have hr' : 1 ≤ re ∧ re ≤ 1000 := by simp at hr; omega
  clear hr G2 G1' H1 R1
  go_wp2_with fail
  refine (pick1 50 R2 (by omega)).mono ?_
  rintro e w3 ⟨c, rfl, hc0, hc1, R3, G3⟩
  have G3' : w.grownBy w3 (some r) := grown_trans G2' G3 (fun g hg => .inr hg)
  have H3 := Lib.hid (keepB G3 H2.out hne)
  have hc1' := hc1 (by omega)
  clear hc1 G3 G2' H2 R2
  have hsz := G3'.size
  have hne3 : w3.heap.size ≠ r := by omega
  have hne33 : w.heap.size ≠ w3.heap.size := by have := (Array.getElem?_eq_some_iff.1 H3.out).1; omega
  have L3 : (w3.alloc (.cells #[.int .i64 l, .int .i64 re, .int .i64 0, .int .i64 0, .int .i64 c] 25)).heap[w3.heap.size]? = some (.cells #[.int .i64 l, .int .i64 re, .int .i64 0, .int .i64 0, .int .i64 c] 25 (0, 0)) := heap_alloc_new w3 _
  have L3 := Lib.hid L3
  go_wp2_with fail
  refine (pick1 3 (R3.alloc _) (by omega)).mono ?_
  rintro e w4 ⟨s, rfl, hs0, hs1, R4, G4⟩
  have ab3 : AB B w (w3.alloc (.cells #[.int .i64 l, .int .i64 re, .int .i64 0, .int .i64 0, .int .i64 c] 25)) r sl (K + 1 + 1 + 1) w3.heap.size ⟨l, re, 0, 0, c⟩ :=
    ⟨R3.alloc _, grown_alloc G3' _, keepA H3.out _, L3.out, hrlt, by have := (Array.getElem?_eq_some_iff.1 H3.out).1; omega, by unfold bdB; simp only; omega⟩
  have ab4 := ab3.pick R4 G4
  have hs1' := hs1 (by omega)
  clear hs1 G4 R4 R3 G3' H3 L3 ab3
  have ab5 := ab4.set (b' := ⟨l, re, s, 0, c⟩) 2 s rfl (by unfold bdB; simp only; omega)
  obtain ⟨a0, a1, a2, a3, a4, z0, z1, z2, z3, z4⟩ := blk5 ab4.hL
  have ab : AB B w (w4.setCell ⟨w3.heap.size, 2, none⟩ (.int .i64 s)) r sl (K + 5) w3.heap.size ⟨l, re, s, 0, c⟩ := ⟨ab5.rs.mono (by omega), ab5.grow, ab5.h0, ab5.hL, ab5.rlt, ab5.lo, ab5.bd⟩
  clear ab5 ab4
  by_cases hs : s = 0
  · subst hs
    go_wp2_with fail
    refine (pick1 l ab.rs (by omega)).mono ?_
    rintro e w5 ⟨f, rfl, hf0, hf1, R5, G5⟩
    have hf1' := hf1 (by omega)
    have ab6 := ab.pick R5 G5
    clear hf1 a0 a1 a2 a3 a4 z0 z1 z2 z3 z4 R5 G5 ab
    obtain ⟨a0, a1, a2, a3, a4, z0, z1, z2, z3, z4⟩ := blk5 ab6.hL
    have ab := ab6.set (b' := ⟨l, re, 0, f, c⟩) 3 f rfl (by unfold bdB; simp only; omega)
    go_wp2_with fail
    refine (pick1 20 ab.rs (by omega)).mono ?_
    rintro e w6 ⟨x, rfl, hx0, hx1, R6, G6⟩
    have ab := ab.pick R6 G6
    clear hx1 R6 G6
    obtain ⟨a0, a1, a2, a3, a4, z0, z1, z2, z3, z4⟩ := blk5 ab.hL
    obtain ⟨q0, q1, q2, q3, q4, y0, y1, y2, y3, y4⟩ := blk5 ab.h0
    have hLL : ¬ w3.heap.size = w.heap.size := by have := ab.lo; omega
    have hLL' : ¬ w.heap.size = w3.heap.size := by have := ab.lo; omega
    by_cases x0 : x = 0
    · subst x0
      go_wp2_with fail
      refine (one1 [0, 9] rfl (ab.rs.alloc _) (by omega) (lit_heap' [0, 9] rfl) (by simp) (by simp)).mono ?_
      rintro e w7 ⟨u, hu, rfl, R7, G7⟩
      have ab := (ab.alloc _).pick R7 G7
      have hu' : 0 ≤ u ∧ u ≤ 9 := by simp at hu; omega
      clear hu R7 G7 a0 a1 a2 a3 a4 z0 z1 z2 z3 z4 q0 q1 q2 q3 q4 y0 y1 y2 y3 y4
      obtain ⟨a0, a1, a2, a3, a4, z0, z1, z2, z3, z4⟩ := blk5 ab.hL
      obtain ⟨q0, q1, q2, q3, q4, y0, y1, y2, y3, y4⟩ := blk5 ab.h0
      have ab := ab.set (b' := ⟨u, re, 0, f, c⟩) 0 u rfl (by unfold bdB; simp only; omega)
      go_wp2
      refine bodyPost_ret (v := .agg #[.int .i64 ((⟨u, re, 0, f, c⟩ : Bk)).limit, .int .i64 ((⟨u, re, 0, f, c⟩ : Bk)).rest, .int .i64 ((⟨u, re, 0, f, c⟩ : Bk)).state, .int .i64 ((⟨u, re, 0, f, c⟩ : Bk)).fails, .int .i64 ((⟨u, re, 0, f, c⟩ : Bk)).since]) (by simp [results, Try.results52, go_sem, *]) rfl ?_
      exact ⟨_, rfl, ab.bd, (ab.fin _ _ _ _ _).1.mono (by omega), (ab.fin _ _ _ _ _).2⟩
    · have x0' : (x == 0) = false := by simp [x0]
      by_cases x1 : x = 1
      · subst x1
        go_wp2_with fail
        refine (one1 [-1, l, 1] rfl (ab.rs.alloc _) (by omega) (lit_heap' [-1, l, 1] rfl) (by simp) (by simp)).mono ?_
        rintro e w7 ⟨u, hu, rfl, R7, G7⟩
        have ab := (ab.alloc _).pick R7 G7
        have hu' : -1 ≤ u ∧ u ≤ 9 := by simp at hu; omega
        clear hu R7 G7 a0 a1 a2 a3 a4 z0 z1 z2 z3 z4 q0 q1 q2 q3 q4 y0 y1 y2 y3 y4
        obtain ⟨a0, a1, a2, a3, a4, z0, z1, z2, z3, z4⟩ := blk5 ab.hL
        obtain ⟨q0, q1, q2, q3, q4, y0, y1, y2, y3, y4⟩ := blk5 ab.h0
        have ab := ab.set (b' := ⟨l, re, 0, u, c⟩) 3 u rfl (by unfold bdB; simp only; omega)
        go_wp2
        refine bodyPost_ret (v := .agg #[.int .i64 ((⟨l, re, 0, u, c⟩ : Bk)).limit, .int .i64 ((⟨l, re, 0, u, c⟩ : Bk)).rest, .int .i64 ((⟨l, re, 0, u, c⟩ : Bk)).state, .int .i64 ((⟨l, re, 0, u, c⟩ : Bk)).fails, .int .i64 ((⟨l, re, 0, u, c⟩ : Bk)).since]) (by simp [results, Try.results52, go_sem, *]) rfl ?_
        exact ⟨_, rfl, ab.bd, (ab.fin _ _ _ _ _).1.mono (by omega), (ab.fin _ _ _ _ _).2⟩
      · have x1' : (x == 1) = false := by simp [x1]
        by_cases x2 : x = 2
        · subst x2
          go_wp2_with fail
          refine (one1 [-1, 3] rfl (ab.rs.alloc _) (by omega) (lit_heap' [-1, 3] rfl) (by simp) (by simp)).mono ?_
          rintro e w7 ⟨u, hu, rfl, R7, G7⟩
          have ab := (ab.alloc _).pick R7 G7
          have hu' : -1 ≤ u ∧ u ≤ 9 := by simp at hu; omega
          clear hu R7 G7 a0 a1 a2 a3 a4 z0 z1 z2 z3 z4 q0 q1 q2 q3 q4 y0 y1 y2 y3 y4
          obtain ⟨a0, a1, a2, a3, a4, z0, z1, z2, z3, z4⟩ := blk5 ab.hL
          obtain ⟨q0, q1, q2, q3, q4, y0, y1, y2, y3, y4⟩ := blk5 ab.h0
          have ab := ab.set (b' := ⟨l, re, u, f, c⟩) 2 u rfl (by unfold bdB; simp only; omega)
          go_wp2
          refine bodyPost_ret (v := .agg #[.int .i64 ((⟨l, re, u, f, c⟩ : Bk)).limit, .int .i64 ((⟨l, re, u, f, c⟩ : Bk)).rest, .int .i64 ((⟨l, re, u, f, c⟩ : Bk)).state, .int .i64 ((⟨l, re, u, f, c⟩ : Bk)).fails, .int .i64 ((⟨l, re, u, f, c⟩ : Bk)).since]) (by simp [results, Try.results52, go_sem, *]) rfl ?_
          exact ⟨_, rfl, ab.bd, (ab.fin _ _ _ _ _).1.mono (by omega), (ab.fin _ _ _ _ _).2⟩
        · have x2' : (x == 2) = false := by simp [x2]
          go_wp2
          refine bodyPost_ret (v := .agg #[.int .i64 ((⟨l, re, 0, f, c⟩ : Bk)).limit, .int .i64 ((⟨l, re, 0, f, c⟩ : Bk)).rest, .int .i64 ((⟨l, re, 0, f, c⟩ : Bk)).state, .int .i64 ((⟨l, re, 0, f, c⟩ : Bk)).fails, .int .i64 ((⟨l, re, 0, f, c⟩ : Bk)).since]) (by simp [results, Try.results52, go_sem, *]) rfl ?_
          exact ⟨_, rfl, ab.bd, (ab.fin _ _ _ _ _).1.mono (by omega), (ab.fin _ _ _ _ _).2⟩
  · have hs' : (s == 0) = false := by simp [hs]
    go_wp2_with fail
    refine (pick1 20 ab.rs (by omega)).mono ?_
    rintro e w6 ⟨x, rfl, hx0, hx1, R6, G6⟩
    have ab := ab.pick R6 G6
    clear hx1 R6 G6
    obtain ⟨a0, a1, a2, a3, a4, z0, z1, z2, z3, z4⟩ := blk5 ab.hL
    obtain ⟨q0, q1, q2, q3, q4, y0, y1, y2, y3, y4⟩ := blk5 ab.h0
    have hLL : ¬ w3.heap.size = w.heap.size := by have := ab.lo; omega
    have hLL' : ¬ w.heap.size = w3.heap.size := by have := ab.lo; omega
    by_cases x0 : x = 0
    · subst x0
      go_wp2_with fail
      refine (one1 [0, 9] rfl (ab.rs.alloc _) (by omega) (lit_heap' [0, 9] rfl) (by simp) (by simp)).mono ?_
      rintro e w7 ⟨u, hu, rfl, R7, G7⟩
      have ab := (ab.alloc _).pick R7 G7
      have hu' : 0 ≤ u ∧ u ≤ 9 := by simp at hu; omega
      clear hu R7 G7 a0 a1 a2 a3 a4 z0 z1 z2 z3 z4 q0 q1 q2 q3 q4 y0 y1 y2 y3 y4
      obtain ⟨a0, a1, a2, a3, a4, z0, z1, z2, z3, z4⟩ := blk5 ab.hL
      obtain ⟨q0, q1, q2, q3, q4, y0, y1, y2, y3, y4⟩ := blk5 ab.h0
      have ab := ab.set (b' := ⟨u, re, s, 0, c⟩) 0 u rfl (by unfold bdB; simp only; omega)
      go_wp2
      refine bodyPost_ret (v := .agg #[.int .i64 ((⟨u, re, s, 0, c⟩ : Bk)).limit, .int .i64 ((⟨u, re, s, 0, c⟩ : Bk)).rest, .int .i64 ((⟨u, re, s, 0, c⟩ : Bk)).state, .int .i64 ((⟨u, re, s, 0, c⟩ : Bk)).fails, .int .i64 ((⟨u, re, s, 0, c⟩ : Bk)).since]) (by simp [results, Try.results52, go_sem, *]) rfl ?_
      exact ⟨_, rfl, ab.bd, (ab.fin _ _ _ _ _).1.mono (by omega), (ab.fin _ _ _ _ _).2⟩
    · have x0' : (x == 0) = false := by simp [x0]
      by_cases x1 : x = 1
      · subst x1
        go_wp2_with fail
        refine (one1 [-1, l, 1] rfl (ab.rs.alloc _) (by omega) (lit_heap' [-1, l, 1] rfl) (by simp) (by simp)).mono ?_
        rintro e w7 ⟨u, hu, rfl, R7, G7⟩
        have ab := (ab.alloc _).pick R7 G7
        have hu' : -1 ≤ u ∧ u ≤ 9 := by simp at hu; omega
        clear hu R7 G7 a0 a1 a2 a3 a4 z0 z1 z2 z3 z4 q0 q1 q2 q3 q4 y0 y1 y2 y3 y4
        obtain ⟨a0, a1, a2, a3, a4, z0, z1, z2, z3, z4⟩ := blk5 ab.hL
        obtain ⟨q0, q1, q2, q3, q4, y0, y1, y2, y3, y4⟩ := blk5 ab.h0
        have ab := ab.set (b' := ⟨l, re, s, u, c⟩) 3 u rfl (by unfold bdB; simp only; omega)
        go_wp2
        refine bodyPost_ret (v := .agg #[.int .i64 ((⟨l, re, s, u, c⟩ : Bk)).limit, .int .i64 ((⟨l, re, s, u, c⟩ : Bk)).rest, .int .i64 ((⟨l, re, s, u, c⟩ : Bk)).state, .int .i64 ((⟨l, re, s, u, c⟩ : Bk)).fails, .int .i64 ((⟨l, re, s, u, c⟩ : Bk)).since]) (by simp [results, Try.results52, go_sem, *]) rfl ?_
        exact ⟨_, rfl, ab.bd, (ab.fin _ _ _ _ _).1.mono (by omega), (ab.fin _ _ _ _ _).2⟩
      · have x1' : (x == 1) = false := by simp [x1]
        by_cases x2 : x = 2
        · subst x2
          go_wp2_with fail
          refine (one1 [-1, 3] rfl (ab.rs.alloc _) (by omega) (lit_heap' [-1, 3] rfl) (by simp) (by simp)).mono ?_
          rintro e w7 ⟨u, hu, rfl, R7, G7⟩
          have ab := (ab.alloc _).pick R7 G7
          have hu' : -1 ≤ u ∧ u ≤ 9 := by simp at hu; omega
          clear hu R7 G7 a0 a1 a2 a3 a4 z0 z1 z2 z3 z4 q0 q1 q2 q3 q4 y0 y1 y2 y3 y4
          obtain ⟨a0, a1, a2, a3, a4, z0, z1, z2, z3, z4⟩ := blk5 ab.hL
          obtain ⟨q0, q1, q2, q3, q4, y0, y1, y2, y3, y4⟩ := blk5 ab.h0
          have ab := ab.set (b' := ⟨l, re, u, 0, c⟩) 2 u rfl (by unfold bdB; simp only; omega)
          go_wp2
          refine bodyPost_ret (v := .agg #[.int .i64 ((⟨l, re, u, 0, c⟩ : Bk)).limit, .int .i64 ((⟨l, re, u, 0, c⟩ : Bk)).rest, .int .i64 ((⟨l, re, u, 0, c⟩ : Bk)).state, .int .i64 ((⟨l, re, u, 0, c⟩ : Bk)).fails, .int .i64 ((⟨l, re, u, 0, c⟩ : Bk)).since]) (by simp [results, Try.results52, go_sem, *]) rfl ?_
          exact ⟨_, rfl, ab.bd, (ab.fin _ _ _ _ _).1.mono (by omega), (ab.fin _ _ _ _ _).2⟩
        · have x2' : (x == 2) = false := by simp [x2]
          go_wp2
          refine bodyPost_ret (v := .agg #[.int .i64 ((⟨l, re, s, 0, c⟩ : Bk)).limit, .int .i64 ((⟨l, re, s, 0, c⟩ : Bk)).rest, .int .i64 ((⟨l, re, s, 0, c⟩ : Bk)).state, .int .i64 ((⟨l, re, s, 0, c⟩ : Bk)).fails, .int .i64 ((⟨l, re, s, 0, c⟩ : Bk)).since]) (by simp [results, Try.results52, go_sem, *]) rfl ?_
          exact ⟨_, rfl, ab.bd, (ab.fin _ _ _ _ _).1.mono (by omega), (ab.fin _ _ _ _ _).2⟩
end Go.Proofs.Ytcgnaokpdlbhbaa
