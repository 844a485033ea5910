/- The drawn leases: lists of at most 17 in new memory; connections, times. -/
import Derived.Test.YthbemokpdcipaaaDrawLease
namespace Go.Proofs.Ythbemokpdcipaaa
open Go.ChangeShapes Go.WideShapes Go.ChangeAt Go.RowKit
set_option linter.unusedVariables false

def SomeL (B : Nat) (w : World) (r : Nat) (sl : Value) (K : Nat) (e : Ending) (w' : World) : Prop :=
  ∃ (L : Nat → Lz) (n : Nat) (a : Option Addr) (c : Nat), e = .returned (.slice a n c) ∧ n ≤ 16 ∧ w'.ownsRow w.heap.size 29 4 (.slice a n c) n (rowsL L n) ∧ RS B w' r sl (K + 100) ∧ w.grownBy w' (some r)

set_option maxHeartbeats 1000000 in
theorem someLeases_calls {B : Nat} {r : Nat} {sl : Value} {K : Nat} (w : World) (h : RS B w r sl K) (hK : K ≤ 100000) :
    Calls Try.prog 61 #[.pointer (some ⟨r, 0, none⟩)] w (SomeL B w r sl K) := by
  have hrlt := h.lt
  have hbase := h.base
  go_enter Try.func61, Try.ntmps61
  go_wp2_with fail
  refine (one1 [5, 8, 3, 12, 1, 0, 16] rfl ((h.alloc _).alloc _) (by omega) (lit_heap' [5, 8, 3, 12, 1, 0, 16] (by simp)) (by simp) (by simp)).mono ?_
  rintro e w2 ⟨u, hu, rfl, R2, G2⟩
  have G2' : w.grownBy w2 (some r) := grown_trans (grown_alloc' (World.grownBy_alloc w (.cells #[] 29) (some r)) _) G2 (fun g hg => .inr hg)
  have O2 : w2.ownsRow w.heap.size 29 4 (.slice (some ⟨w.heap.size, 0, none⟩) 0 0) 0 (rowsL (fun _ => default) 0) := by
    refine World.ownsRow.kept (w := (w.alloc (.cells #[] 29)).alloc (.cells ([5, 8, 3, 12, 1, 0, 16].map (Value.int .i64)).toArray 3)) ?_ G2 ?_
    · exact (World.ownsRow_lit w #[] 0 (Nat.le_refl _) (Nat.zero_le _) rfl).alloc _
    · right; simp [Value.ownBlock]; omega
  obtain ⟨j0, rfl, hj0⟩ : ∃ j : Nat, u = (j : Int) ∧ j ≤ 16 := ⟨u.toNat, by simp at hu; omega, by simp at hu; omega⟩
  clear hu G2
  go_wp2
  go_loopw [3, 4] (fun o nn wr => ∃ (L : Nat → Lz) (n : Nat) (j m : Nat), nn = .int .i64 j ∧ wr.ownsRow w.heap.size 29 4 o n (rowsL L n) ∧ n ≤ m ∧ m + j ≤ 16 ∧ RS B wr r sl (K + 1 + 4 * m) ∧ w.grownBy wr (some r))
    (fun _ nn _ => (intOf nn).toNat)
  case atStart => exact ⟨_, 0, j0, 0, rfl, O2, Nat.le_refl _, by simpa using hj0, R2, G2'⟩
  case round =>
    obtain ⟨L, n, j, m, rfl, O3, hnm, hxj, R3, hG3⟩ := hrel
    clear O2 R2 G2'
    by_cases hj : 0 < j
    · skip
      go_wp2_with fail
      refine (pick1 60 R3 (by omega)).mono ?_
      rintro e w4 ⟨f, rfl, hf0, hf1, R4, G4⟩
      have O4 := O3.kept G4 (.inr (fun e => by have := O3.lt _ e; omega))
      have hG4 := grown_trans hG3 G4 (fun g hg => .inr hg)
      have hf2 := hf1 (by omega)
      clear hf1 O3 R3 hG3 G4
      go_wp2_with fail
      refine (pick1 4 R4 (by omega)).mono ?_
      rintro e w5 ⟨p, rfl, hp0, hp1, R5, G5⟩
      have O5 := O4.kept G5 (.inr (fun e => by have := O4.lt _ e; omega))
      have hG5 := grown_trans hG4 G5 (fun g hg => .inr hg)
      have hp2 := hp1 (by omega)
      clear hp1 O4 R4 hG4 G5
      go_wp2_with fail
      refine (pick1 5 R5 (by omega)).mono ?_
      rintro e w6 ⟨q, rfl, hq0, hq1, R6, G6⟩
      have O6 := O5.kept G6 (.inr (fun e => by have := O5.lt _ e; omega))
      have hG6 := grown_trans hG5 G6 (fun g hg => .inr hg)
      have hq2 := hq1 (by omega)
      clear hq1 O5 R5 hG5 G6
      go_wp2_with fail
      refine (pick1 30 R6 (by omega)).mono ?_
      rintro e w7 ⟨d, rfl, hd0, hd1, R7, G7⟩
      have O7 := O6.kept G7 (.inr (fun e => by have := O6.lt _ e; omega))
      have hG7 := grown_trans hG6 G7 (fun g hg => .inr hg)
      have hd2 := hd1 (by omega)
      clear hd1 O6 R6 hG6 G7
      have hsz7 := hG7.size
      obtain ⟨a, c, rfl⟩ := own_slice O7
      have RL := RdL_of_own O7
      have H7 := Lib.hid O7
      have hlo7 := O7.lt
      clear O7
      go_wp2_with fail
      refine (AddLease_calls a n c L ⟨p, q, f, f + 1 + d⟩ w7 RL (by omega)).mono ?_
      rintro e w8 (⟨rfl, hb8⟩ | ⟨M, a8, c8, rfl, O8, hb8⟩)
      · have O8 := own_below H7.out hb8
        have hG8 := grown_trans hG7 (grown_of_below hb8 none) (fun g hg => by simp at hg)
        have R8 := (R7.grown (grown_of_below hb8 none) (fun g hg => by simp at hg)).mono (K' := K + 1 + 4 * (m + 1)) (by omega)
        have H8 := Lib.hid O8
        have H9 := Lib.hid hG8
        clear O8 hG8 hG7 RL
        go_wp2
        go_roundw
        case rel => exact ⟨L, n, j - 1, m + 1, by go_num, H8.out, by omega, by omega, R8, H9.out⟩
        case measure => simp [intOf]; omega
      · have hG8 := grown_trans hG7 (grown_of_below hb8 none) (fun g hg => by simp at hg)
        have R8 := (R7.grown (grown_of_below hb8 none) (fun g hg => by simp at hg)).mono (K' := K + 1 + 4 * (m + 1)) (by omega)
        have H8 := Lib.hid (World.ownsRow.mono O8 hsz7)
        have H9 := Lib.hid hG8
        clear O8 hG8 hG7 RL
        go_wp2
        go_roundw
        case rel => exact ⟨M, n + 1, j - 1, m + 1, by go_num, H8.out, by omega, by omega, R8, H9.out⟩
        case measure => simp [intOf]; omega
    · obtain rfl : j = 0 := by omega
      obtain ⟨a, c, rfl⟩ := own_slice O3
      have H3 := Lib.hid O3
      have H9 := Lib.hid hG3
      clear O3 hG3
      go_wp2
      go_ret
      exact ⟨L, n, a, c, rfl, by omega, H3.out, R3.mono (by omega), H9.out⟩

def DrawnL (B : Nat) (w : World) (r : Nat) (sl : Value) (K : Nat) (e : Ending) (w' : World) : Prop :=
  ∃ (L : Nat → Lz) (n : Nat) (ao : Option Addr) (cap : Nat), e = .returned (.slice ao n cap) ∧ n ≤ 17 ∧ RdL w' ao n cap L ∧ (∀ b off x, ao = some ⟨b, off, x⟩ → w.heap.size ≤ b) ∧ RS B w' r sl (K + 120) ∧ w.grownBy w' (some r)
theorem own_high {w : World} {base : Nat} {e : TypeId} {s n cap : Nat} {ao : Option Addr} {xs : List Value} (h : w.ownsRow base e s (.slice ao n cap) n xs) : ∀ b off x, ao = some ⟨b, off, x⟩ → base ≤ b := by
  intro b off x hx
  subst hx
  exact (h.lt b rfl).1

set_option maxHeartbeats 1000000 in
theorem anyLeases_calls {B : Nat} {r : Nat} {sl : Value} {K : Nat} (w : World) (h : RS B w r sl K) (hK : K ≤ 100000) :
    Calls Try.prog 33 #[.pointer (some ⟨r, 0, none⟩)] w (DrawnL B w r sl K) := by
  have hrlt := h.lt
  have hbase := h.base
  go_enter Try.func33, Try.ntmps33
  go_wp2_with fail
  refine (someLeases_calls w h hK).mono ?_
  rintro e w2 ⟨L, n, a, c, rfl, hn, O2, R2, hG2⟩
  go_wp2_with fail
  refine (pick1 14 R2 (by omega)).mono ?_
  rintro e w3 ⟨y, rfl, hy0, hy1, R3, G3⟩
  have O3 := O2.kept G3 (.inr (fun e => by have := O2.lt _ e; omega))
  have hG3 := grown_trans hG2 G3 (fun g hg => .inr hg)
  clear hy1 O2 hG2 R2 G3
  by_cases hy : y = 0
  · subst hy
    go_wp2_with fail
    refine (one1 [0, 5, 6, -1] rfl (R3.alloc _) (by omega) (lit_heap' [0, 5, 6, -1] (by simp)) (by simp) (by simp)).mono ?_
    rintro e w4 ⟨x4, _, rfl, R4, G4⟩
    have O4 := (O3.alloc (.cells ([0, 5, 6, -1].map (Value.int .i64)).toArray 3)).kept G4 (.inr (fun e => by have := O3.lt _ e; omega))
    have hG4 := grown_trans (grown_alloc' hG3 (.cells ([0, 5, 6, -1].map (Value.int .i64)).toArray 3)) G4 (fun g hg => .inr hg)
    clear O3 hG3 G4 R3
    go_wp2_with fail
    refine (one1 [0, 4, 5] rfl (R4.alloc _) (by omega) (lit_heap' [0, 4, 5] (by simp)) (by simp) (by simp)).mono ?_
    rintro e w5 ⟨x5, _, rfl, R5, G5⟩
    have O5 := (O4.alloc (.cells ([0, 4, 5].map (Value.int .i64)).toArray 3)).kept G5 (.inr (fun e => by have := O4.lt _ e; omega))
    have hG5 := grown_trans (grown_alloc' hG4 (.cells ([0, 4, 5].map (Value.int .i64)).toArray 3)) G5 (fun g hg => .inr hg)
    clear O4 hG4 G5 R4
    go_wp2_with fail
    refine (one1 [10, 999, 1000] rfl (R5.alloc _) (by omega) (lit_heap' [10, 999, 1000] (by simp)) (by simp) (by simp)).mono ?_
    rintro e w6 ⟨x6, _, rfl, R6, G6⟩
    have O6 := (O5.alloc (.cells ([10, 999, 1000].map (Value.int .i64)).toArray 3)).kept G6 (.inr (fun e => by have := O5.lt _ e; omega))
    have hG6 := grown_trans (grown_alloc' hG5 (.cells ([10, 999, 1000].map (Value.int .i64)).toArray 3)) G6 (fun g hg => .inr hg)
    clear O5 hG5 G6 R5
    go_wp2_with fail
    refine (one1 [20, 10, 1000, 1001] rfl (R6.alloc _) (by omega) (lit_heap' [20, 10, 1000, 1001] (by simp)) (by simp) (by simp)).mono ?_
    rintro e w7 ⟨x7, _, rfl, R7, G7⟩
    have O7 := (O6.alloc (.cells ([20, 10, 1000, 1001].map (Value.int .i64)).toArray 3)).kept G7 (.inr (fun e => by have := O6.lt _ e; omega))
    have hG7 := grown_trans (grown_alloc' hG6 (.cells ([20, 10, 1000, 1001].map (Value.int .i64)).toArray 3)) G7 (fun g hg => .inr hg)
    clear O6 hG6 G7 R6
    have hsz7 := hG7.size
    go_wp2_with (at_builtin; refine app1 Try.underlying23 infoLease rfl (by decide) (by decide) O7 (by omega) (by omega) rfl (by simp [Value.oneCell']) _ _ rfl rfl rfl rfl ?_)
    intro v' w8 O8 G8
    have O9 : w8.ownsRow w.heap.size 29 4 v' (n + 1) (rowsL (fun i => if i = n then ⟨x4, x5, x6, x7⟩ else L i) (n + 1)) := by rw [← rowsL_snoc]; exact O8
    have R8 : RS B w8 r sl (K + 120) := (R7.grown G8 (fun g hg => by have := O7.lt g hg; omega)).mono (by omega)
    have hG8 := grown_trans hG7 G8 (fun g hg => by have := O7.lt g hg; omega)
    obtain ⟨a8, c8, rfl⟩ := own_slice O9
    have HR := Lib.hid (RdL_of_own O9)
    have HH := Lib.hid (own_high O9)
    have HG := Lib.hid hG8
    clear O8 G8 O9 O7 hG7 hG8
    go_wp2
    go_ret
    exact ⟨_, n + 1, _, _, rfl, by omega, HR.out, HH.out, R8, HG.out⟩
  · have hy' : (y == 0) = false := by simp [hy]
    have HR := Lib.hid (RdL_of_own O3)
    have HH := Lib.hid (own_high O3)
    have HG := Lib.hid hG3
    clear O3 hG3
    go_wp2
    go_ret
    exact ⟨L, n, _, _, rfl, by omega, HR.out, HH.out, R3.mono (by omega), HG.out⟩

def SomeZ (w : World) (e : Ending) (w' : World) : Prop := ∃ (L : Nat → Lz) (n : Nat) (ao : Option Addr) (cap : Nat), e = .returned (.slice ao n cap) ∧ n ≤ 17 ∧ RdL w' ao n cap L ∧ Below w.heap.size w w'
def SomeZ1 (w : World) (e : Ending) (w' : World) : Prop := ∃ (L : Nat → Lz) (n : Nat) (ao : Option Addr) (cap : Nat) (x : Int), e = .returned (.tuple #[.slice ao n cap, .int .i64 x]) ∧ n ≤ 17 ∧ (-1 ≤ x ∧ x ≤ 1001) ∧ RdL w' ao n cap L ∧ Below w.heap.size w w'
def SomeZ2 (w : World) (e : Ending) (w' : World) : Prop := ∃ (L : Nat → Lz) (n : Nat) (ao : Option Addr) (cap : Nat) (x y : Int), e = .returned (.tuple #[.slice ao n cap, .int .i64 x, .int .i64 y]) ∧ n ≤ 17 ∧ (0 ≤ x ∧ x ≤ 5) ∧ (-1 ≤ y ∧ y ≤ 1001) ∧ RdL w' ao n cap L ∧ Below w.heap.size w w'

/-- A pick keeps a list of the call's own. -/
theorem pick_keeps {w w' : World} {ao : Option Addr} {n cap r B : Nat} {L : Nat → Lz} (h : RdL w ao n cap L) (hg : w.grownBy w' (some r)) (hF : ∀ b off x, ao = some ⟨b, off, x⟩ → B ≤ b) (hr : r < B) : RdL w' ao n cap L :=
  Rd.grown h hg (fun b off x hx => by have := hF b off x hx; simp; omega)

theorem drawMostLeased_calls (ao : Option Addr) (n cap : Nat) (c : Nat → Int) (w : World) (h : Code8 w ao n cap c) : Calls Try.prog 27 #[.slice ao n cap] w (SomeZ w) := by
  go_enter Try.func27, Try.ntmps27
  go_wp2_with fail
  refine (newReader1 ao n cap c w h).mono ?_
  rintro e w1 ⟨r, sl, rfl, R1, B1⟩
  go_wp2_with fail
  refine (anyLeases_calls w1 R1 (by omega)).mono ?_
  rintro e w2 ⟨L, m, a2, c2, rfl, hm, RL, F2, R2, G2⟩
  have B2 := below_pick B1 B1.size R1 (Nat.le_refl _) G2
  have F4 := Lib.hid RL
  clear F2 RL
  go_wp2
  go_ret
  exact ⟨L, m, a2, c2, rfl, hm, F4.out, B2⟩

theorem drawPackLeases_calls (ao : Option Addr) (n cap : Nat) (c : Nat → Int) (w : World) (h : Code8 w ao n cap c) : Calls Try.prog 13 #[.slice ao n cap] w (SomeZ w) := by
  go_enter Try.func13, Try.ntmps13
  go_wp2_with fail
  refine (newReader1 ao n cap c w h).mono ?_
  rintro e w1 ⟨r, sl, rfl, R1, B1⟩
  go_wp2_with fail
  refine (anyLeases_calls w1 R1 (by omega)).mono ?_
  rintro e w2 ⟨L, m, a2, c2, rfl, hm, RL, F2, R2, G2⟩
  have B2 := below_pick B1 B1.size R1 (Nat.le_refl _) G2
  have F4 := Lib.hid RL
  clear F2 RL
  go_wp2
  go_ret
  exact ⟨L, m, a2, c2, rfl, hm, F4.out, B2⟩

theorem drawMeanLeased_calls (ao : Option Addr) (n cap : Nat) (c : Nat → Int) (w : World) (h : Code8 w ao n cap c) : Calls Try.prog 24 #[.slice ao n cap] w (SomeZ1 w) := by
  go_enter Try.func24, Try.ntmps24
  go_wp2_with fail
  refine (newReader1 ao n cap c w h).mono ?_
  rintro e w1 ⟨r, sl, rfl, R1, B1⟩
  go_wp2_with fail
  refine (anyLeases_calls w1 R1 (by omega)).mono ?_
  rintro e w2 ⟨L, m, a2, c2, rfl, hm, RL, F2, R2, G2⟩
  have B2 := below_pick B1 B1.size R1 (Nat.le_refl _) G2
  have hrl := R1.lt
  have F3 := Lib.hid F2
  have F4 := Lib.hid RL
  clear F2 RL
  go_wp2_with fail
  refine (one1 [100, 50, 10, 1000, 1, 0, 1001, 30] rfl (R2.alloc _) (by omega) (lit_heap' [100, 50, 10, 1000, 1, 0, 1001, 30] (by simp)) (by simp) (by simp)).mono ?_
  rintro e w3 ⟨z, hz, rfl, R3, G3⟩
  have hz' : -1 ≤ z ∧ z ≤ 1001 := by simp at hz; omega
  have B3 := below_pick (B2.alloc B2.size (.cells ([100, 50, 10, 1000, 1, 0, 1001, 30].map (Value.int .i64)).toArray 3)) (by have := B2.size; simp; omega) (R2.alloc _) (Nat.le_refl _) G3
  have F5 := Lib.hid (pick_keeps (RdL.below F4.out ((Below.refl _ _).alloc (Nat.le_refl _) _)) G3 F3.out hrl)
  clear hz F4
  go_wp2
  go_returns
  exact ⟨L, m, a2, c2, z, rfl, hm, hz', F5.out, B3⟩

theorem drawOwnerAt_calls (ao : Option Addr) (n cap : Nat) (c : Nat → Int) (w : World) (h : Code8 w ao n cap c) : Calls Try.prog 54 #[.slice ao n cap] w (SomeZ2 w) := by
  go_enter Try.func54, Try.ntmps54
  go_wp2_with fail
  refine (newReader1 ao n cap c w h).mono ?_
  rintro e w1 ⟨r, sl, rfl, R1, B1⟩
  go_wp2_with fail
  refine (anyLeases_calls w1 R1 (by omega)).mono ?_
  rintro e w2 ⟨L, m, a2, c2, rfl, hm, RL, F2, R2, G2⟩
  have B2 := below_pick B1 B1.size R1 (Nat.le_refl _) G2
  have hrl := R1.lt
  have F3 := Lib.hid F2
  have F4 := Lib.hid RL
  clear F2 RL
  go_wp2_with fail
  refine (pick1 5 R2 (by omega)).mono ?_
  rintro e w3 ⟨x, rfl, hx0, hx1, R3, G3⟩
  have hx2 := hx1 (by omega)
  have B3 := below_pick B2 B2.size R2 (Nat.le_refl _) G3
  have F5 := Lib.hid (pick_keeps F4.out G3 F3.out hrl)
  clear hx1 F4
  go_wp2_with fail
  refine (pick1 90 R3 (by omega)).mono ?_
  rintro e w4 ⟨y1, rfl, hy0, hy1, R4, G4⟩
  have hy2 := hy1 (by omega)
  have B4 := below_pick B3 B3.size R3 (Nat.le_refl _) G4
  have F6 := Lib.hid (pick_keeps F5.out G4 F3.out hrl)
  clear hy1 F5
  go_wp2_with fail
  refine (pick1 90 R4 (by omega)).mono ?_
  rintro e w5 ⟨y3, rfl, hv0, hv1, R5, G5⟩
  have hv2 := hv1 (by omega)
  have B5 := below_pick B4 B4.size R4 (Nat.le_refl _) G5
  have F7 := Lib.hid (pick_keeps F6.out G5 F3.out hrl)
  clear hv1 F6
  go_wp2_with fail
  refine (one1 [y1, y3, 0, -1, 1000] rfl (R5.alloc _) (by omega) (lit_heap' [y1, y3, 0, -1, 1000] (by simp)) (by simp) (by simp)).mono ?_
  rintro e w6 ⟨z, hz, rfl, R6, G6⟩
  have hz' : -1 ≤ z ∧ z ≤ 1001 := by simp at hz; omega
  have B6 := below_pick (B5.alloc B5.size (.cells ([y1, y3, 0, -1, 1000].map (Value.int .i64)).toArray 3)) (by have := B5.size; simp; omega) (R5.alloc _) (Nat.le_refl _) G6
  have F8 := Lib.hid (pick_keeps (RdL.below F7.out ((Below.refl _ _).alloc (Nat.le_refl _) _)) G6 F3.out hrl)
  clear hz F7
  go_wp2
  go_returns
  exact ⟨L, m, a2, c2, x, z, rfl, hm, ⟨hx0, by omega⟩, hz', F8.out, B6⟩

theorem drawBusyAt_calls (ao : Option Addr) (n cap : Nat) (c : Nat → Int) (w : World) (h : Code8 w ao n cap c) : Calls Try.prog 29 #[.slice ao n cap] w (SomeZ1 w) := by
  go_enter Try.func29, Try.ntmps29
  go_wp2_with fail
  refine (drawOwnerAt_calls ao n cap c w h).mono ?_
  rintro e w2 ⟨L, m, a2, c2, x, y, rfl, hm, hx, hy, RL, B2⟩
  have F4 := Lib.hid RL
  clear RL
  go_wp2
  go_returns
  exact ⟨L, m, a2, c2, y, rfl, hm, hy, F4.out, B2⟩
end Go.Proofs.Ythbemokpdcipaaa
