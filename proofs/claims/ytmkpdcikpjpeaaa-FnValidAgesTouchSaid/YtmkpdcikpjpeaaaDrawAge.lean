/- The drawn ages: at most 7 in new memory; lives, rests, times. -/
import Derived.Test.YtmkpdcikpjpeaaaAgeS
import Derived.Deep.RegionWith
namespace Go.Proofs.Ytmkpdcikpjpeaaa
open Go.ChangeShapes Go.WideShapes Go.ChangeAt Go.RowKit
set_option linter.unusedVariables false

def DrawnA (B : Nat) (w : World) (r : Nat) (sl : Value) (K : Nat) (e : Ending) (w' : World) : Prop :=
  ∃ (L : Nat → Ag) (n : Nat) (ao : Option Addr) (cap : Nat), e = .returned (.slice ao n cap) ∧ n ≤ 7 ∧ RdA w' ao n cap L ∧ (∀ b off x, ao = some ⟨b, off, x⟩ → w.heap.size ≤ b) ∧ RS B w' r sl (K + 60) ∧ w.grownBy w' (some r)

set_option maxHeartbeats 1000000 in
theorem anyAges_calls {B : Nat} {r : Nat} {sl : Value} {K : Nat} (w : World) (h : RS B w r sl K) (hK : K ≤ 100000) :
    Calls Try.prog 41 #[.pointer (some ⟨r, 0, none⟩)] w (DrawnA B w r sl K) := by
  have hrlt := h.lt
  have hbase := h.base
  go_enter Try.func41, Try.ntmps41
  go_wp2_with fail
  refine (one1 [3, 4, 2, 6, 1, 0, 7] rfl ((h.alloc _).alloc _) (by omega) (lit_heap' [3, 4, 2, 6, 1, 0, 7] (by simp)) (by simp) (by simp)).mono ?_
  rintro e w2 ⟨u, hu, rfl, R2, G2⟩
  have G2' : w.grownBy w2 (some r) := grown_trans (grown_alloc' (World.grownBy_alloc w (.cells #[] 28) (some r)) _) G2 (fun g hg => .inr hg)
  have O2 : w2.ownsRow w.heap.size 28 2 (.slice (some ⟨w.heap.size, 0, none⟩) 0 0) 0 (rowsA (fun _ => default) 0) := by
    refine World.ownsRow.kept (w := (w.alloc (.cells #[] 28)).alloc (.cells ([3, 4, 2, 6, 1, 0, 7].map (Value.int .i64)).toArray 3)) ?_ G2 ?_
    · exact (World.ownsRow_lit w #[] 0 (Nat.le_refl _) (Nat.zero_le _) rfl).alloc _
    · right; simp [Value.ownBlock]; omega
  obtain ⟨j0, rfl, hj0⟩ : ∃ j : Nat, u = (j : Int) ∧ j ≤ 7 := ⟨u.toNat, by simp at hu; omega, by simp at hu; omega⟩
  clear hu G2
  go_wp2
  go_loopw [3, 4] (fun o nn wr => ∃ (L : Nat → Ag) (n : Nat) (j : Nat), nn = .int .i64 j ∧ wr.ownsRow w.heap.size 28 2 o n (rowsA L n) ∧ n + j ≤ 7 ∧ RS B wr r sl (K + 1 + 2 * n) ∧ w.grownBy wr (some r))
    (fun _ nn _ => (intOf nn).toNat)
  case atStart => exact ⟨_, 0, j0, rfl, O2, by simpa using hj0, R2, G2'⟩
  case round =>
    obtain ⟨L, n, j, rfl, hown, hxj, hR, hG⟩ := hrel
    have HO := hown
    by_cases hj : 0 < j
    · go_wp2_with fail
      refine (pick1 100 hR (by omega)).mono ?_
      rintro e w3 ⟨x, rfl, hx0, hx1, R3, G3⟩
      have O3 := hown.kept G3 (.inr (fun e => by have := hown.lt _ e; omega))
      have hG3 := grown_trans hG G3 (fun g hg => .inr hg)
      have hx1' := hx1 (by omega)
      clear hx1 hown HO hG hR G3
      go_wp2_with fail
      refine (pick1 60 R3 (by omega)).mono ?_
      rintro e w4 ⟨y, rfl, hy0, hy1, R4, G4⟩
      have O4 := O3.kept G4 (.inr (fun e => by have := O3.lt _ e; omega))
      have hG4 := grown_trans hG3 G4 (fun g hg => .inr hg)
      have hsz4 := hG4.size
      have hy1' := hy1 (by omega)
      clear hy1 O3 R3 hG3 G4
      go_wp2_with (at_builtin; refine app1 Try.underlying23 infoAge rfl (by decide) (by decide) O4 (by omega) (by omega) rfl (by simp [Value.oneCell']) _ _ rfl rfl rfl rfl ?_)
      intro v' w5 O5 G5
      have O5' : w5.ownsRow w.heap.size 28 2 v' (n + 1) (rowsA (fun i => if i = n then ⟨x, x + y⟩ else L i) (n + 1)) := by rw [← rowsA_snoc]; exact O5
      have R5 : RS B w5 r sl (K + 1 + 2 * (n + 1)) := (R4.grown G5 (fun g hg => by have := O4.lt g hg; omega)).mono (by omega)
      have hG5 := grown_trans hG4 G5 (fun g hg => by have := O4.lt g hg; omega)
      have H6 := Lib.hid O5'
      clear O5 G5 O4 R4 hG4 O5'
      go_wp2
      go_roundw
      case rel => exact ⟨_, n + 1, j - 1, by go_num, H6.out, by omega, R5, hG5⟩
      case measure => simp [intOf]; omega
    · obtain rfl : j = 0 := by omega
      have hrb := hR.base
      have hrl := hR.lt
      have hsz := hG.size
      rcases Nat.eq_zero_or_pos n with rfl | hn
      · rcases hown.2 with ⟨rfl, _⟩ | ⟨g, cap, cur, rfl, hg, _⟩
        · clear hown HO
          go_wp2
          go_ret
          exact ⟨L, 0, _, _, rfl, by omega, Rd.nil _ _ _, fun b off x hx => by simp at hx, hR.mono (by omega), hG⟩
        · have hRd := RdA_of_own hown
          have H9 := Lib.hid hRd
          clear hown HO hRd
          go_wp2
          go_ret
          exact ⟨L, 0, _, _, rfl, by omega, H9.out, fun b off x hx => by simp at hx; omega, hR.mono (by omega), hG⟩
      · obtain ⟨g, cap, rfl⟩ := own_form hown hn
        have hgl := hown.lt g rfl
        have d0 : decide (0 < n) = true := by simpa using hn
        go_wp2_with fail
        refine (pick1 16 hR (by omega)).mono ?_
        rintro e w3 ⟨y, rfl, hy0, hy1, R3, G3⟩
        have O3 := hown.kept G3 (.inr (by simp [Value.ownBlock]; omega))
        have hG3 := grown_trans hG G3 (fun g hg => .inr hg)
        clear hy1 hown HO hG hR G3
        by_cases hy : y = 0
        · subst hy
          go_wp2_with fail
          refine (pick1 (n : Int) R3 (by omega)).mono ?_
          rintro e w4 ⟨v, rfl, hv0, hv1, R4, G4⟩
          obtain ⟨i, rfl⟩ := Int.eq_ofNat_of_zero_le hv0
          have hi : i < n := by have := hv1 (by omega); omega
          have i0 : (i : Int) < (n : Int) := by omega
          have O4 := O3.kept G4 (.inr (by simp [Value.ownBlock]; omega))
          have hG4 := grown_trans hG3 G4 (fun g hg => .inr hg)
          clear hv1 O3 hG3 G4 R3
          go_wp2_with fail
          refine (one1 [-1, 50, 1000] rfl (R4.alloc _) (by omega) (lit_heap' [-1, 50, 1000] (by simp)) (by simp) (by simp)).mono ?_
          rintro e w5 ⟨x1, _, rfl, R5, G5⟩
          have O5 := (O4.alloc (.cells ([-1, 50, 1000].map (Value.int .i64)).toArray 3)).kept G5 (.inr (by simp [Value.ownBlock]; omega))
          have hG5 := grown_trans (grown_alloc' hG4 (.cells ([-1, 50, 1000].map (Value.int .i64)).toArray 3)) G5 (fun g hg => .inr hg)
          clear O4 hG4 G5 R4
          go_wp2_with fail
          refine (one1 [49, 1001, 1000] rfl (R5.alloc _) (by omega) (lit_heap' [49, 1001, 1000] (by simp)) (by simp) (by simp)).mono ?_
          rintro e w6 ⟨x2, _, rfl, R6, G6⟩
          have O6 := (O5.alloc (.cells ([49, 1001, 1000].map (Value.int .i64)).toArray 3)).kept G6 (.inr (by simp [Value.ownBlock]; omega))
          have hG6 := grown_trans (grown_alloc' hG5 (.cells ([49, 1001, 1000].map (Value.int .i64)).toArray 3)) G6 (fun g hg => .inr hg)
          clear O5 hG5 G6 R5
          obtain ⟨v0, d0⟩ := own_some O6 (i * 2) (by omega)
          obtain ⟨v1, d1⟩ := own_some O6 (i * 2 + 1) (by omega)
          have z0 := O6.frozenAt (i * 2)
          have z1 := O6.frozenAt (i * 2 + 1)
          have s1 := O6.stored (i * 2) (.int .i64 x1)
          have s2 := s1.1.stored (i * 2 + 1) (.int .i64 x2)
          have O8 := s2.1
          rw [rowsA_set L n i hi ⟨x1, x2⟩] at O8
          have H9 := Lib.hid (RdA_of_own O8)
          have hgr : ∀ q, (Value.slice (some ⟨g, 0, none⟩) n cap).ownBlock = some q → w.heap.size ≤ q := fun q hq => by simp [Value.ownBlock] at hq; omega
          have hgr2 : ∀ q, (Value.slice (some ⟨g, 0, none⟩) n cap).ownBlock = some q → B ≤ q ∧ q ≠ r := fun q hq => by simp [Value.ownBlock] at hq; omega
          have H8 := Lib.hid (grown_trans (grown_trans hG6 s1.2 (fun q hq => .inl (hgr q hq))) s2.2 (fun q hq => .inl (hgr q hq)))
          have H7 := Lib.hid (((R6.grown s1.2 hgr2).grown s2.2 hgr2).mono (K' := K + 60) (by omega))
          clear s1 s2 O8 O6 hG6 R6 hgr hgr2
          go_wp2
          go_ret
          exact ⟨_, n, _, _, rfl, by omega, H9.out, fun b off x hx => by simp at hx; omega, H7.out, H8.out⟩
        · have hy' : (y == 0) = false := by simp [hy]
          have H9 := Lib.hid (RdA_of_own O3)
          have H8 := Lib.hid hG3
          clear O3 hG3
          go_wp2
          go_ret
          exact ⟨L, n, _, _, rfl, by omega, H9.out, fun b off x hx => by simp at hx; omega, R3.mono (by omega), H8.out⟩

def SpanR (B : Nat) (w : World) (r : Nat) (sl : Value) (K : Nat) (e : Ending) (w' : World) : Prop :=
  ∃ v : Int, e = .returned (.int .i64 v) ∧ 0 ≤ v ∧ v ≤ 1001 ∧ RS B w' r sl (K + 1) ∧ w.grownBy w' (some r)
theorem someSpan_calls {B : Nat} {r : Nat} {sl : Value} {K : Nat} (w : World) (h : RS B w r sl K) (hK : K ≤ 100000) :
    Calls Try.prog 54 #[.pointer (some ⟨r, 0, none⟩)] w (SpanR B w r sl K) := by
  go_enter Try.func54, Try.ntmps54
  go_wp2_with fail
  refine (one1 [50, 20, 100, 10, 1, 1000, 0, 1001] rfl (h.alloc _) (by omega) (lit_heap' [50, 20, 100, 10, 1, 1000, 0, 1001] (by simp)) (by simp) (by simp)).mono ?_
  rintro e w2 ⟨u, hu, rfl, R2, G2⟩
  have G2' : w.grownBy w2 (some r) := grown_trans (World.grownBy_alloc w _ (some r)) G2 (fun g hg => .inr hg)
  have hu' : 0 ≤ u ∧ u ≤ 1001 := by simp at hu; omega
  clear hu G2
  go_wp2
  go_ret
  exact ⟨u, rfl, hu'.1, hu'.2, R2, G2'⟩

def SomeA (w : World) (e : Ending) (w' : World) : Prop := ∃ (L : Nat → Ag) (n : Nat) (ao : Option Addr) (cap : Nat), e = .returned (.slice ao n cap) ∧ n ≤ 7 ∧ RdA w' ao n cap L ∧ Below w.heap.size w w'
def SomeA2 (w : World) (e : Ending) (w' : World) : Prop := ∃ (L : Nat → Ag) (n : Nat) (ao : Option Addr) (cap : Nat) (x y : Int), e = .returned (.tuple #[.slice ao n cap, .int .i64 x, .int .i64 y]) ∧ n ≤ 7 ∧ (-1 ≤ x ∧ x ≤ 1001) ∧ (0 ≤ y ∧ y ≤ 1001) ∧ RdA w' ao n cap L ∧ Below w.heap.size w w'
def SomeA3 (w : World) (e : Ending) (w' : World) : Prop := ∃ (L : Nat → Ag) (n : Nat) (ao : Option Addr) (cap : Nat) (x y z : Int), e = .returned (.tuple #[.slice ao n cap, .int .i64 x, .int .i64 y, .int .i64 z]) ∧ n ≤ 7 ∧ (0 ≤ x ∧ x ≤ 1001) ∧ (0 ≤ y ∧ y ≤ 1001) ∧ (0 ≤ z ∧ z ≤ 1001) ∧ RdA w' ao n cap L ∧ Below w.heap.size w w'

/-- A pick keeps a list of the call's own. -/
theorem pick_keeps {w w' : World} {ao : Option Addr} {n cap r B : Nat} {L : Nat → Ag} (h : RdA w ao n cap L) (hg : w.grownBy w' (some r)) (hF : ∀ b off x, ao = some ⟨b, off, x⟩ → B ≤ b) (hr : r < B) : RdA w' ao n cap L :=
  Rd.grown h hg (fun b off x hx => by have := hF b off x hx; simp; omega)

theorem drawValidAges_calls (ao : Option Addr) (n cap : Nat) (c : Nat → Int) (w : World) (h : Code8 w ao n cap c) : Calls Try.prog 17 #[.slice ao n cap] w (SomeA w) := by
  go_enter Try.func17, Try.ntmps17
  go_wp2_with fail
  refine (newReader1 ao n cap c w h).mono ?_
  rintro e w1 ⟨r, sl, rfl, R1, B1⟩
  go_wp2_with fail
  refine (anyAges_calls w1 R1 (by omega)).mono ?_
  rintro e w2 ⟨L, m, a2, c2, rfl, hm, RL, F2, R2, G2⟩
  have B2 := below_pick B1 B1.size R1 (Nat.le_refl _) G2
  have F3 := Lib.hid F2
  have F4 := Lib.hid RL
  clear F2 RL
  go_wp2
  go_ret
  exact ⟨L, m, a2, c2, rfl, hm, F4.out, B2⟩

theorem drawNextEnd_calls (ao : Option Addr) (n cap : Nat) (c : Nat → Int) (w : World) (h : Code8 w ao n cap c) : Calls Try.prog 25 #[.slice ao n cap] w (SomeA2 w) := by
  go_enter Try.func25, Try.ntmps25
  go_wp2_with fail
  refine (newReader1 ao n cap c w h).mono ?_
  rintro e w1 ⟨r, sl, rfl, R1, B1⟩
  go_wp2_with fail
  refine (anyAges_calls w1 R1 (by omega)).mono ?_
  rintro e w2 ⟨L, m, a2, c2, rfl, hm, RL, F2, R2, G2⟩
  have B2 := below_pick B1 B1.size R1 (Nat.le_refl _) G2
  have hrl := R1.lt
  have F3 := Lib.hid F2
  have F4 := Lib.hid RL
  clear F2 RL
  go_wp2_with fail
  refine (someSpan_calls w2 R2 (by omega)).mono ?_
  rintro e w3 ⟨x, rfl, hx0, hx1, R3, G3⟩
  have B3 := below_pick B2 B2.size R2 (Nat.le_refl _) G3
  go_wp2_with fail
  refine (someSpan_calls w3 R3 (by omega)).mono ?_
  rintro e w4 ⟨y, rfl, hy0, hy1, R4, G4⟩
  have B4 := below_pick B3 B3.size R3 (Nat.le_refl _) G4
  have F5 := Lib.hid (pick_keeps (pick_keeps F4.out G3 F3.out hrl) G4 F3.out hrl)
  clear F4
  go_wp2
  go_returns
  exact ⟨L, m, a2, c2, x, y, rfl, hm, ⟨by omega, hx1⟩, ⟨hy0, hy1⟩, F5.out, B4⟩

theorem drawEndedConns_calls (ao : Option Addr) (n cap : Nat) (c : Nat → Int) (w : World) (h : Code8 w ao n cap c) : Calls Try.prog 33 #[.slice ao n cap] w (SomeA3 w) := by
  go_enter Try.func33, Try.ntmps33
  go_wp2_with fail
  refine (newReader1 ao n cap c w h).mono ?_
  rintro e w1 ⟨r, sl, rfl, R1, B1⟩
  go_wp2_with fail
  refine (anyAges_calls w1 R1 (by omega)).mono ?_
  rintro e w2 ⟨L, m, a2, c2, rfl, hm, RL, F2, R2, G2⟩
  have B2 := below_pick B1 B1.size R1 (Nat.le_refl _) G2
  have hrl := R1.lt
  have F3 := Lib.hid F2
  have F4 := Lib.hid RL
  clear F2 RL
  go_wp2_with fail
  refine (one1 [100, 150, 60, 0, 1000, 1001, 120] rfl (R2.alloc _) (by omega) (lit_heap' [100, 150, 60, 0, 1000, 1001, 120] (by simp)) (by simp) (by simp)).mono ?_
  rintro e w3 ⟨z, hz, rfl, R3, G3⟩
  have hz' : 0 ≤ z ∧ z ≤ 1001 := by simp at hz; omega
  have B3 := below_pick (B2.alloc B2.size (.cells ([100, 150, 60, 0, 1000, 1001, 120].map (Value.int .i64)).toArray 3)) (by have := B2.size; simp; omega) (R2.alloc _) (Nat.le_refl _) G3
  have F4' := Lib.hid (pick_keeps (RdA.below F4.out ((Below.refl _ _).alloc (Nat.le_refl _) _)) G3 F3.out hrl)
  clear hz F4
  go_wp2_with fail
  refine (someSpan_calls w3 R3 (by omega)).mono ?_
  rintro e w4 ⟨x, rfl, hx0, hx1, R4, G4⟩
  have B4 := below_pick B3 B3.size R3 (Nat.le_refl _) G4
  go_wp2_with fail
  refine (someSpan_calls w4 R4 (by omega)).mono ?_
  rintro e w5 ⟨y, rfl, hy0, hy1, R5, G5⟩
  have B5 := below_pick B4 B4.size R4 (Nat.le_refl _) G5
  have F5 := Lib.hid (pick_keeps (pick_keeps F4'.out G4 F3.out hrl) G5 F3.out hrl)
  clear F4'
  go_wp2
  go_returns
  exact ⟨L, m, a2, c2, z, x, y, rfl, hm, hz', ⟨hx0, hx1⟩, ⟨hy0, hy1⟩, F5.out, B5⟩

theorem drawTouchConn_calls (ao : Option Addr) (n cap : Nat) (c : Nat → Int) (w : World) (h : Code8 w ao n cap c) : Calls Try.prog 26 #[.slice ao n cap] w (SomeA2 w) := by
  go_enter Try.func26, Try.ntmps26
  go_wp2_with fail
  refine (newReader1 ao n cap c w h).mono ?_
  rintro e w1 ⟨r, sl, rfl, R1, B1⟩
  go_wp2_with fail
  refine (anyAges_calls w1 R1 (by omega)).mono ?_
  rintro e w2 ⟨L, m, a2, c2, rfl, hm, RL, F2, R2, G2⟩
  have B2 := below_pick B1 B1.size R1 (Nat.le_refl _) G2
  have hrl := R1.lt
  have F3 := Lib.hid F2
  have F4 := Lib.hid RL
  clear F2 RL
  go_wp2_with fail
  refine (pick1 8 R2 (by omega)).mono ?_
  rintro e w3 ⟨x, rfl, hx0, hx1, R3, G3⟩
  have hx1' := hx1 (by omega)
  have B3 := below_pick B2 B2.size R2 (Nat.le_refl _) G3
  have F4' := Lib.hid (pick_keeps F4.out G3 F3.out hrl)
  clear hx1 F4
  go_wp2_with fail
  refine (one1 [100, 0, 1000, 1001, 160, 50] rfl (R3.alloc _) (by omega) (lit_heap' [100, 0, 1000, 1001, 160, 50] (by simp)) (by simp) (by simp)).mono ?_
  rintro e w4 ⟨z, hz, rfl, R4, G4⟩
  have hz' : 0 ≤ z ∧ z ≤ 1001 := by simp at hz; omega
  have B4 := below_pick (B3.alloc B3.size (.cells ([100, 0, 1000, 1001, 160, 50].map (Value.int .i64)).toArray 3)) (by have := B3.size; simp; omega) (R3.alloc _) (Nat.le_refl _) G4
  have F5 := Lib.hid (pick_keeps (RdA.below F4'.out ((Below.refl _ _).alloc (Nat.le_refl _) _)) G4 F3.out hrl)
  clear hz F4'
  go_wp2
  go_returns
  exact ⟨L, m, a2, c2, x - 1, z, rfl, hm, ⟨by omega, by omega⟩, hz', F5.out, B4⟩
end Go.Proofs.Ytmkpdcikpjpeaaa
