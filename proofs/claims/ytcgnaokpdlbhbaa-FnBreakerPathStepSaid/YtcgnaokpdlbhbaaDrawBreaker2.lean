/- DrawValidBreaker, DrawLetsCall, DrawBeginCall, DrawEndCall: some breaker within bounds, a time within bounds. -/
import Derived.Test.YtcgnaokpdlbhbaaDrawBreaker
import Derived.Test.YtcgnaokpdlbhbaaBreaker3
import Derived.Deep.RegionWith
import Derived.Deep.RegionHeld3
namespace Go.Proofs.Ytcgnaokpdlbhbaa
open Go.ChangeShapes Go.WideShapes Go.ChangeAt Go.RowKit
set_option linter.unusedVariables false

def DrawnB (w : World) (e : Ending) (w' : World) : Prop := ∃ b : Bk, e = .returned (.agg #[.int .i64 b.limit, .int .i64 b.rest, .int .i64 b.state, .int .i64 b.fails, .int .i64 b.since]) ∧ bdB b ∧ Below w.heap.size w w'
def DrawnBT (w : World) (e : Ending) (w' : World) : Prop := ∃ (b : Bk) (t : Int), e = .returned (.tuple #[.agg #[.int .i64 b.limit, .int .i64 b.rest, .int .i64 b.state, .int .i64 b.fails, .int .i64 b.since], .int .i64 t]) ∧ bdB b ∧ -10000 ≤ t ∧ t ≤ 10000 ∧ Below w.heap.size w w'
def DrawnBGT (w : World) (e : Ending) (w' : World) : Prop := ∃ (b : Bk) (g : Bool) (t : Int), e = .returned (.tuple #[.agg #[.int .i64 b.limit, .int .i64 b.rest, .int .i64 b.state, .int .i64 b.fails, .int .i64 b.since], .bool g, .int .i64 t]) ∧ bdB b ∧ -10000 ≤ t ∧ t ≤ 10000 ∧ Below w.heap.size w w'

theorem drawValidBreaker_calls (ao : Option Addr) (n cap : Nat) (c : Nat → Int) (w : World) (h : Code8 w ao n cap c) : Calls Try.prog 24 #[.slice ao n cap] w (DrawnB w) := by
  have HA : Code8 (w.alloc (.cells #[.int .i64 0, .int .i64 0, .int .i64 0, .int .i64 0, .int .i64 0] 25)) ao n cap c := h.below ((Below.refl _ _).alloc (Nat.le_refl _) _)
  have HA := Lib.hid HA
  go_enter Try.func24, Try.ntmps24
  go_wp2_with fail
  refine (newReader1 ao n cap c _ HA.out).mono ?_
  rintro e w1 ⟨r, sl, rfl, R1, hb1⟩
  have s1 := hb1.size
  simp at s1
  have B1 : Below w.heap.size w w1 := Below.trans (by go_grown) (hb1.mono (by first | omega | (simp; done) | (simp; omega)))
  have hrb := R1.base
  obtain ⟨hc1, hf1⟩ := bcell hb1
  go_wp2_with fail
  refine (anyBreaker_calls w1 R1 (by omega)).mono ?_
  rintro e w2 ⟨b, rfl, hb, R2, G2⟩
  have B2 : Below w.heap.size w w2 := B1.grown G2 B1.size (fun g hg => by simp at hg; simp at hrb; omega)
  have H2 := keepB G2 (L := w.heap.size) ((hb1.block w.heap.size (by simp)).trans (heap_alloc_new w _)) (by simp at hrb; omega)
  obtain ⟨a0, a1, a2, a3, a4, z0, z1, z2, z3, z4⟩ := blk5 H2
  have H2 := Lib.hid H2
  go_wp2
  refine bodyPost_ret (v := .agg #[.int .i64 b.limit, .int .i64 b.rest, .int .i64 b.state, .int .i64 b.fails, .int .i64 b.since]) (by simp [results, Try.results24, go_sem, *]) rfl ?_
  exact ⟨b, rfl, hb, by go_grown⟩

theorem drawLetsCall_calls (ao : Option Addr) (n cap : Nat) (c : Nat → Int) (w : World) (h : Code8 w ao n cap c) : Calls Try.prog 25 #[.slice ao n cap] w (DrawnBT w) := by
  have HA : Code8 (w.alloc (.cells #[.int .i64 0, .int .i64 0, .int .i64 0, .int .i64 0, .int .i64 0] 25)) ao n cap c := h.below ((Below.refl _ _).alloc (Nat.le_refl _) _)
  have HA := Lib.hid HA
  go_enter Try.func25, Try.ntmps25
  go_wp2_with fail
  refine (newReader1 ao n cap c _ HA.out).mono ?_
  rintro e w1 ⟨r, sl, rfl, R1, hb1⟩
  have s1 := hb1.size
  simp at s1
  have B1 : Below w.heap.size w w1 := Below.trans (by go_grown) (hb1.mono (by first | omega | (simp; done) | (simp; omega)))
  have hrb := R1.base
  obtain ⟨hc1, hf1⟩ := bcell hb1
  go_wp2_with fail
  refine (anyBreaker_calls w1 R1 (by omega)).mono ?_
  rintro e w2 ⟨b, rfl, hb, R2, G2⟩
  have B2 : Below w.heap.size w w2 := B1.grown G2 B1.size (fun g hg => by simp at hg; simp at hrb; omega)
  have H2 := keepB G2 (L := w.heap.size) ((hb1.block w.heap.size (by simp)).trans (heap_alloc_new w _)) (by simp at hrb; omega)
  obtain ⟨a0, a1, a2, a3, a4, z0, z1, z2, z3, z4⟩ := blk5 H2
  have H2 := Lib.hid H2
  have hrlt := R2.lt
  have hbd := hb
  unfold bdB at hbd
  go_wp2
  have hL2 : w.heap.size < w2.heap.size := by have := G2.size; omega
  have hneH : w.heap.size ≠ r := by simp at hrb; omega
  have hneL : w2.heap.size ≠ r := by omega
  have HL : (w2.alloc (.cells #[.int .i64 b.limit, .int .i64 b.rest, .int .i64 b.state, .int .i64 b.fails, .int .i64 b.since] 25)).heap[w2.heap.size]? = some (.cells #[.int .i64 b.limit, .int .i64 b.rest, .int .i64 b.state, .int .i64 b.fails, .int .i64 b.since] 25 (0, 0)) := heap_alloc_new w2 _
  have HL := Lib.hid HL
  have n1 : ¬ w2.heap.size = w.heap.size := by omega
  have n2 : ¬ w.heap.size = w2.heap.size := by omega
  obtain ⟨l0, l1, l2, l3, l4, _, _, _, _, _⟩ := blk5 HL.out
  go_region_held3 (fun W => W.cell? ⟨w2.heap.size, 0, none⟩ = some (.int .i64 b.limit) ∧ W.cell? ⟨w2.heap.size, 1, none⟩ = some (.int .i64 b.rest) ∧ W.cell? ⟨w2.heap.size, 2, none⟩ = some (.int .i64 b.state) ∧ W.cell? ⟨w2.heap.size, 3, none⟩ = some (.int .i64 b.fails) ∧ W.cell? ⟨w2.heap.size, 4, none⟩ = some (.int .i64 b.since)) (go_keep)
    (first | (go_at_call 54; refine (one1 [0, 5, 10, 20, 100, -1, 1000] rfl (by first | exact (R2.alloc _).alloc _ | exact ((R2.alloc _).alloc _).drew) (by omega) (by first | exact lit_heap' [0, 5, 10, 20, 100, -1, 1000] (by simp) | exact lit_heap' (w := (World.alloc _ _).drew) [0, 5, 10, 20, 100, -1, 1000] (by simp)) (by simp) (by simp)).mono ?_; rintro e w3 ⟨u, hu, rfl, R3, G3⟩; obtain ⟨q0, q1, q2, q3, q4, p0, p1, p2, p3, p4⟩ := blk5 (keepB G3 (keepA (keepA H2.out _) _) hneH); obtain ⟨q0', q1', q2', q3', q4', _, _, _, _, _⟩ := blk5 (keepB G3 (keepA HL.out _) hneL); have hu' : -10 ≤ u ∧ u ≤ 1000 := (by simp at hu; omega); clear hu))
  have B3 : Below w.heap.size w w3 := Below.grown (a := w) (by go_grown) G3 (by have := B2.size; simp; omega) (fun g hg => by simp at hg; simp at hrb; omega)
  have hw : IntKind.i64.wrap (b.since + u) = b.since + u := IntWalk.i64_in _ (by omega)
  go_wp2
  refine bodyPost_ret (v := .tuple #[.agg #[.int .i64 b.limit, .int .i64 b.rest, .int .i64 b.state, .int .i64 b.fails, .int .i64 b.since], .int .i64 (b.since + u)]) (by simp [results, Try.results25, go_sem, *]) rfl ?_
  exact ⟨b, b.since + u, rfl, hb, by omega, by omega, by go_grown⟩

theorem drawBeginCall_calls (ao : Option Addr) (n cap : Nat) (c : Nat → Int) (w : World) (h : Code8 w ao n cap c) : Calls Try.prog 31 #[.slice ao n cap] w (DrawnBT w) := by
  have HA : Code8 (w.alloc (.cells #[.int .i64 0, .int .i64 0, .int .i64 0, .int .i64 0, .int .i64 0] 25)) ao n cap c := h.below ((Below.refl _ _).alloc (Nat.le_refl _) _)
  have HA := Lib.hid HA
  go_enter Try.func31, Try.ntmps31
  go_wp2_with fail
  refine (drawLetsCall_calls ao n cap c _ HA.out).mono ?_
  rintro e w1 ⟨b, t, rfl, hb, ht1, ht2, hb1⟩
  have B1 : Below w.heap.size w w1 := Below.trans (by go_grown) (hb1.mono (by first | omega | (simp; done) | (simp; omega)))
  have H2 := (hb1.block w.heap.size (by simp)).trans (heap_alloc_new w _)
  obtain ⟨a0, a1, a2, a3, a4, z0, z1, z2, z3, z4⟩ := blk5 H2
  have H2 := Lib.hid H2
  go_wp2
  refine bodyPost_ret (v := .tuple #[.agg #[.int .i64 b.limit, .int .i64 b.rest, .int .i64 b.state, .int .i64 b.fails, .int .i64 b.since], .int .i64 t]) (by simp [results, Try.results31, go_sem, *]) rfl ?_
  exact ⟨b, t, rfl, hb, ht1, ht2, by go_grown⟩

theorem drawEndCall_calls (ao : Option Addr) (n cap : Nat) (c : Nat → Int) (w : World) (h : Code8 w ao n cap c) : Calls Try.prog 32 #[.slice ao n cap] w (DrawnBGT w) := by
  have HA : Code8 (w.alloc (.cells #[.int .i64 0, .int .i64 0, .int .i64 0, .int .i64 0, .int .i64 0] 25)) ao n cap c := h.below ((Below.refl _ _).alloc (Nat.le_refl _) _)
  have HA := Lib.hid HA
  go_enter Try.func32, Try.ntmps32
  go_wp2_with fail
  refine (newReader1 ao n cap c _ HA.out).mono ?_
  rintro e w1 ⟨r, sl, rfl, R1, hb1⟩
  have s1 := hb1.size
  simp at s1
  have B1 : Below w.heap.size w w1 := Below.trans (by go_grown) (hb1.mono (by first | omega | (simp; done) | (simp; omega)))
  have hrb := R1.base
  obtain ⟨hc1, hf1⟩ := bcell hb1
  go_wp2_with fail
  refine (anyBreaker_calls w1 R1 (by omega)).mono ?_
  rintro e w2 ⟨b, rfl, hb, R2, G2⟩
  have B2 : Below w.heap.size w w2 := B1.grown G2 B1.size (fun g hg => by simp at hg; simp at hrb; omega)
  have H2 := keepB G2 (L := w.heap.size) ((hb1.block w.heap.size (by simp)).trans (heap_alloc_new w _)) (by simp at hrb; omega)
  have H2 := Lib.hid H2
  have hrlt := R2.lt
  have hbd := hb
  unfold bdB at hbd
  have hL2 : w.heap.size < w2.heap.size := by have := G2.size; omega
  have hneH : w.heap.size ≠ r := by simp at hrb; omega
  have hneL : w2.heap.size ≠ r := by omega
  have HL : (w2.alloc (.cells #[.int .i64 b.limit, .int .i64 b.rest, .int .i64 b.state, .int .i64 b.fails, .int .i64 b.since] 25)).heap[w2.heap.size]? = some (.cells #[.int .i64 b.limit, .int .i64 b.rest, .int .i64 b.state, .int .i64 b.fails, .int .i64 b.since] 25 (0, 0)) := heap_alloc_new w2 _
  have HL := Lib.hid HL
  have n1 : ¬ w2.heap.size = w.heap.size := by omega
  have n2 : ¬ w.heap.size = w2.heap.size := by omega
  go_wp2_with fail
  refine (pick1 2 (R2.alloc _) (by omega)).mono ?_
  rintro e w4 ⟨x, rfl, hx0, hx1, R4, G4⟩
  have B4 : Below w.heap.size w w4 := Below.grown (a := w) (w := w2.alloc _) (by go_grown) G4 (by have := B2.size; simp; omega) (fun g hg => by simp at hg; simp at hrb; omega)
  have H4 := Lib.hid (keepB G4 (keepA H2.out _) hneH)
  have L4 := Lib.hid (keepB G4 HL.out hneL)
  clear hx1 H2 HL
  obtain ⟨l0, l1, l2, l3, l4, _, _, _, _, _⟩ := blk5 L4.out
  go_wp2_with fail
  go_region_held3 (fun W => W.cell? ⟨w2.heap.size, 0, none⟩ = some (.int .i64 b.limit) ∧ W.cell? ⟨w2.heap.size, 1, none⟩ = some (.int .i64 b.rest) ∧ W.cell? ⟨w2.heap.size, 2, none⟩ = some (.int .i64 b.state) ∧ W.cell? ⟨w2.heap.size, 3, none⟩ = some (.int .i64 b.fails) ∧ W.cell? ⟨w2.heap.size, 4, none⟩ = some (.int .i64 b.since)) (go_keep)
    (first | (go_at_call 54; refine (one1 [0, 5, 10, 20, 100, -1, 1000] rfl (by first | exact R4.alloc _ | exact (R4.alloc _).drew) (by omega) (by first | exact lit_heap' [0, 5, 10, 20, 100, -1, 1000] (by simp) | exact lit_heap' (w := (World.alloc _ _).drew) [0, 5, 10, 20, 100, -1, 1000] (by simp)) (by simp) (by simp)).mono ?_; rintro e w3 ⟨u, hu, rfl, R3, G3⟩; obtain ⟨q0, q1, q2, q3, q4, p0, p1, p2, p3, p4⟩ := blk5 (keepB G3 (keepA H4.out _) hneH); obtain ⟨q0', q1', q2', q3', q4', _, _, _, _, _⟩ := blk5 (keepB G3 (keepA L4.out _) hneL); have hu' : -10 ≤ u ∧ u ≤ 1000 := (by simp at hu; omega); clear hu))
  have B3 : Below w.heap.size w w3 := Below.grown (a := w) (by have zz := B4.size; go_grown) G3 (by have := B4.size; simp; omega) (fun g hg => by simp at hg; simp at hrb; omega)
  have hw : IntKind.i64.wrap (b.since + u) = b.since + u := IntWalk.i64_in _ (by omega)
  go_wp2
  refine bodyPost_ret (v := .tuple #[.agg #[.int .i64 b.limit, .int .i64 b.rest, .int .i64 b.state, .int .i64 b.fails, .int .i64 b.since], .bool (x == 0), .int .i64 (b.since + u)]) (by simp [results, Try.results32, go_sem, *]) rfl ?_
  exact ⟨b, x == 0, b.since + u, rfl, hb, by omega, by omega, by go_grown⟩
end Go.Proofs.Ytcgnaokpdlbhbaa
