/- The drawn wishes: at most 13 in new memory. -/
import Derived.Test.YtmabhoglnapgdaaWishS
import Derived.Deep.RegionWith
namespace Go.Proofs.Ytmabhoglnapgdaa
open Go.ChangeShapes Go.WideShapes Go.ChangeAt Go.RowKit
set_option linter.unusedVariables false

theorem rowsW_snoc (L : Nat → Wi) (n : Nat) (y : Wi) : rowsW L n ++ wenc y = rowsW (fun i => if i = n then y else L i) (n + 1) := by
  unfold rowsW
  rw [List.range_succ, List.flatMap_append]
  congr 1
  · exact flatR_congr fun i hi => by
      have : ¬ i = n := by omega
      simp [this]
  · simp
theorem rowsW_set (L : Nat → Wi) (n k : Nat) (hk : k < n) (y : Wi) : ((((rowsW L n).set (k * 3) (.int .i64 y.at_)).set (k * 3 + 1) (.int .i64 y.hold)).set (k * 3 + 2) (.int .i64 y.pat)) = rowsW (fun i => if i = k then y else L i) n := by
  unfold rowsW
  rw [flat_set3 _ (fun _ => wenc_len _) n k hk]
  refine flatR_congr fun i hi => ?_
  by_cases e : i = k
  · subst e; simp [wenc]
  · simp [e]

def DrawnW (B : Nat) (w : World) (r : Nat) (sl : Value) (K : Nat) (e : Ending) (w' : World) : Prop :=
  ∃ (L : Nat → Wi) (n : Nat) (ao : Option Addr) (cap : Nat), e = .returned (.slice ao n cap) ∧ n ≤ 13 ∧ RdW w' ao n cap L ∧ (∀ b off x, ao = some ⟨b, off, x⟩ → w.heap.size ≤ b) ∧ RS B w' r sl (K + 60) ∧ w.grownBy w' (some r)

set_option maxHeartbeats 1000000 in
theorem anyWishes_calls {B : Nat} {r : Nat} {sl : Value} {K : Nat} (w : World) (h : RS B w r sl K) (hK : K ≤ 100000) :
    Calls Try.prog 43 #[.pointer (some ⟨r, 0, none⟩)] w (DrawnW B w r sl K) := by
  have hrlt := h.lt
  have hbase := h.base
  go_enter Try.func43, Try.ntmps43
  go_wp2_with fail
  refine (pick1 10 (h.alloc _) (by omega)).mono ?_
  rintro e w1 ⟨nw, rfl, hn0, hn1, R1, G1⟩
  have hn1' := hn1 (by omega)
  have O1 : w1.ownsRow w.heap.size 28 3 (.slice (some ⟨w.heap.size, 0, none⟩) 0 0) 0 (rowsW (fun _ => default) 0) := by
    refine World.ownsRow.kept (w := w.alloc (.cells #[] 28)) ?_ G1 ?_
    · exact World.ownsRow_lit w #[] 0 (Nat.le_refl _) (Nat.zero_le _) rfl
    · right; simp [Value.ownBlock]; omega
  have G1' : w.grownBy w1 (some r) := grown_trans (World.grownBy_alloc w _ (some r)) G1 (fun g hg => .inr hg)
  clear hn1 G1
  go_wp2_with fail
  refine (one1 [5, 8, 3, 12, 1, 0, 13] rfl (R1.alloc _) (by omega) (lit_heap' [5, 8, 3, 12, 1, 0, 13] (by simp)) (by simp) (by simp)).mono ?_
  rintro e w2 ⟨u, hu, rfl, R2, G2⟩
  have G2' : w.grownBy w2 (some r) := grown_trans (grown_trans G1' (World.grownBy_alloc _ _ none) (fun g hg => by simp at hg)) G2 (fun g hg => .inr hg)
  have O2 := (O1.alloc (.cells ([5, 8, 3, 12, 1, 0, 13].map (Value.int .i64)).toArray 3)).kept G2 (.inr (by simp [Value.ownBlock]; omega))
  obtain ⟨j0, rfl, hj0⟩ : ∃ j : Nat, u = (j : Int) ∧ j ≤ 13 := ⟨u.toNat, by simp at hu; omega, by simp at hu; omega⟩
  clear hu G2 O1 G1' R1
  go_wp2
  go_loopw [3, 4, 5] (fun o t nn wr => ∃ (L : Nat → Wi) (n : Nat) (x : Int) (j : Nat), t = .int .i64 x ∧ nn = .int .i64 j ∧ wr.ownsRow w.heap.size 28 3 o n (rowsW L n) ∧ n + j ≤ 13 ∧ 0 ≤ x ∧ x ≤ 10 + 20 * n ∧ RS B wr r sl (K + 2 + 3 * n) ∧ w.grownBy wr (some r))
    (fun _ _ nn _ => (intOf nn).toNat)
  case atStart => exact ⟨_, 0, nw, j0, rfl, rfl, O2, by simpa using hj0, by omega, by omega, R2, G2'⟩
  case round =>
    obtain ⟨L, n, x, j, rfl, rfl, hown, hxj, hx0, hx1, hR, hG⟩ := hrel
    have HO := hown
    by_cases hj : 0 < j
    · go_wp2_with fail
      refine (pick1 30 hR (by omega)).mono ?_
      rintro e w3 ⟨y, rfl, hy0, hy1, R3, G3⟩
      have O3 := hown.kept G3 (.inr (fun e => by have := hown.lt _ e; omega))
      have hG3 := grown_trans hG G3 (fun g hg => .inr hg)
      have hsz := hG3.size
      have hy1' := hy1 (by omega)
      clear hy1 hown HO hG hR G3
      go_wp2_with fail
      refine (one1 [0, 5, 10, 30, 100] rfl (R3.alloc _) (by omega) (lit_heap' [0, 5, 10, 30, 100] (by simp)) (by simp) (by simp)).mono ?_
      rintro e w4 ⟨z, hz, rfl, R4, G4⟩
      have O4 := (O3.alloc (.cells ([0, 5, 10, 30, 100].map (Value.int .i64)).toArray 3)).kept G4 (.inr (fun e => by have := O3.lt _ e; omega))
      have hG4 := grown_trans (grown_alloc' hG3 (.cells ([0, 5, 10, 30, 100].map (Value.int .i64)).toArray 3)) G4 (fun g hg => .inr hg)
      have hsz4 := hG4.size
      clear hz O3 R3 hG3 G4
      go_wp2_with (at_builtin; refine app1 Try.underlying23 infoWish rfl (by decide) (by decide) O4 (by omega) (by omega) rfl (by simp [Value.oneCell']) _ _ rfl rfl rfl rfl ?_)
      intro v' w5 O5 G5
      have O5' : w5.ownsRow w.heap.size 28 3 v' (n + 1) (rowsW (fun i => if i = n then ⟨x, 1 + y, z⟩ else L i) (n + 1)) := by rw [← rowsW_snoc]; exact O5
      have R5 : RS B w5 r sl (K + 2 + 3 * n + 1 + 1) := R4.grown G5 (fun g hg => by have := O4.lt g hg; omega)
      have hG5 := grown_trans hG4 G5 (fun g hg => by have := O4.lt g hg; omega)
      have hsz5 := hG5.size
      clear O5 G5 O4 R4 hG4
      go_wp2_with fail
      refine (one1 [0, 1, 5, 10, 3] rfl (R5.alloc _) (by omega) (lit_heap' [0, 1, 5, 10, 3] (by simp)) (by simp) (by simp)).mono ?_
      rintro e w6 ⟨u, hu, rfl, R6, G6⟩
      have O6 := (O5'.alloc (.cells ([0, 1, 5, 10, 3].map (Value.int .i64)).toArray 3)).kept G6 (.inr (fun e => by have := O5'.lt _ e; omega))
      have hG6 := grown_trans (grown_alloc' hG5 (.cells ([0, 1, 5, 10, 3].map (Value.int .i64)).toArray 3)) G6 (fun g hg => .inr hg)
      have hu' : 0 ≤ u ∧ u ≤ 10 := by simp at hu; omega
      have R6' := R6.mono (K' := K + 2 + 3 * (n + 1)) (by omega)
      have H6 := Lib.hid O6
      have H7 := Lib.hid R6'
      have H8 := Lib.hid hG6
      clear hu O5' R5 hG5 G6 O6 R6 R6' hG6
      go_wp2
      go_roundw
      case rel => exact ⟨_, n + 1, x + u, j - 1, rfl, by go_num, H6.out, by omega, by omega, by omega, H7.out, H8.out⟩
      case measure => simp [intOf]; omega
    · obtain rfl : j = 0 := by omega
      have hrb := hR.base
      have hrl := hR.lt
      have hsz := hG.size
      rcases Nat.eq_zero_or_pos n with rfl | hn
      · rcases hown.2 with ⟨rfl, _⟩ | ⟨g, cap, cur, rfl, hg, _⟩
        · clear hown HO
          go_wp2
          go_ret
          exact ⟨L, 0, _, _, rfl, by omega, Rd.nil _ _ _, fun b off x hx => by simp at hx, hR.mono (by omega), hG⟩
        · have hRd := RdW_of_own hown
          have H9 := Lib.hid hRd
          clear hown HO hRd
          go_wp2
          go_ret
          exact ⟨L, 0, _, _, rfl, by omega, H9.out, fun b off x hx => by simp at hx; omega, hR.mono (by omega), hG⟩
      · obtain ⟨g, cap, rfl⟩ := own_form hown hn
        have hgl := hown.lt g rfl
        have d0 : decide (0 < n) = true := by simpa using hn
        go_wp2_with fail
        refine (pick1 16 hR (by omega)).mono ?_
        rintro e w3 ⟨y, rfl, hy0, hy1, R3, G3⟩
        have O3 := hown.kept G3 (.inr (by simp [Value.ownBlock]; omega))
        have hG3 := grown_trans hG G3 (fun g hg => .inr hg)
        clear hy1 hown HO hG hR G3
        by_cases hy : y = 0
        · subst hy
          go_wp2_with fail
          refine (pick1 (n : Int) R3 (by omega)).mono ?_
          rintro e w4 ⟨v, rfl, hv0, hv1, R4, G4⟩
          obtain ⟨i, rfl⟩ := Int.eq_ofNat_of_zero_le hv0
          have hi : i < n := by have := hv1 (by omega); omega
          have i0 : (i : Int) < (n : Int) := by omega
          have O4 := O3.kept G4 (.inr (by simp [Value.ownBlock]; omega))
          have hG4 := grown_trans hG3 G4 (fun g hg => .inr hg)
          clear hv1 O3 hG3 G4 R3
          go_wp2_with fail
          refine (one1 [-1, 5, 1001] rfl (R4.alloc _) (by omega) (lit_heap' [-1, 5, 1001] (by simp)) (by simp) (by simp)).mono ?_
          rintro e w5 ⟨x1, _, rfl, R5, G5⟩
          have O5 := (O4.alloc (.cells ([-1, 5, 1001].map (Value.int .i64)).toArray 3)).kept G5 (.inr (by simp [Value.ownBlock]; omega))
          have hG5 := grown_trans (grown_alloc' hG4 (.cells ([-1, 5, 1001].map (Value.int .i64)).toArray 3)) G5 (fun g hg => .inr hg)
          clear O4 hG4 G5 R4
          go_wp2_with fail
          refine (one1 [0, 5, 101] rfl (R5.alloc _) (by omega) (lit_heap' [0, 5, 101] (by simp)) (by simp) (by simp)).mono ?_
          rintro e w6 ⟨x2, _, rfl, R6, G6⟩
          have O6 := (O5.alloc (.cells ([0, 5, 101].map (Value.int .i64)).toArray 3)).kept G6 (.inr (by simp [Value.ownBlock]; omega))
          have hG6 := grown_trans (grown_alloc' hG5 (.cells ([0, 5, 101].map (Value.int .i64)).toArray 3)) G6 (fun g hg => .inr hg)
          clear O5 hG5 G6 R5
          go_wp2_with fail
          refine (one1 [0, -1, 101] rfl (R6.alloc _) (by omega) (lit_heap' [0, -1, 101] (by simp)) (by simp) (by simp)).mono ?_
          rintro e w7 ⟨x3, _, rfl, R7, G7⟩
          have O7 := (O6.alloc (.cells ([0, -1, 101].map (Value.int .i64)).toArray 3)).kept G7 (.inr (by simp [Value.ownBlock]; omega))
          have hG7 := grown_trans (grown_alloc' hG6 (.cells ([0, -1, 101].map (Value.int .i64)).toArray 3)) G7 (fun g hg => .inr hg)
          clear O6 hG6 G7 R6
          obtain ⟨v0, d0⟩ := own_some O7 (i * 3) (by omega)
          obtain ⟨v1, d1⟩ := own_some O7 (i * 3 + 1) (by omega)
          obtain ⟨v2, d2⟩ := own_some O7 (i * 3 + 2) (by omega)
          have z0 := O7.frozenAt (i * 3)
          have z1 := O7.frozenAt (i * 3 + 1)
          have z2 := O7.frozenAt (i * 3 + 2)
          have s1 := O7.stored (i * 3) (.int .i64 x1)
          have s2 := s1.1.stored (i * 3 + 1) (.int .i64 x2)
          have s3 := s2.1.stored (i * 3 + 2) (.int .i64 x3)
          have O8 := s3.1
          rw [rowsW_set L n i hi ⟨x1, x2, x3⟩] at O8
          have H9 := Lib.hid (RdW_of_own O8)
          have hgr : ∀ q, (Value.slice (some ⟨g, 0, none⟩) n cap).ownBlock = some q → w.heap.size ≤ q := fun q hq => by simp [Value.ownBlock] at hq; omega
          have hgr2 : ∀ q, (Value.slice (some ⟨g, 0, none⟩) n cap).ownBlock = some q → B ≤ q ∧ q ≠ r := fun q hq => by simp [Value.ownBlock] at hq; omega
          have H8 := Lib.hid (grown_trans (grown_trans (grown_trans hG7 s1.2 (fun q hq => .inl (hgr q hq))) s2.2 (fun q hq => .inl (hgr q hq))) s3.2 (fun q hq => .inl (hgr q hq)))
          have H7 := Lib.hid ((((R7.grown s1.2 hgr2).grown s2.2 hgr2).grown s3.2 hgr2).mono (K' := K + 60) (by omega))
          clear s1 s2 s3 O8 O7 hG7 R7 hgr hgr2
          go_wp2
          go_ret
          exact ⟨_, n, _, _, rfl, by omega, H9.out, fun b off x hx => by simp at hx; omega, H7.out, H8.out⟩
        · have hy' : (y == 0) = false := by simp [hy]
          have H9 := Lib.hid (RdW_of_own O3)
          have H8 := Lib.hid hG3
          clear O3 hG3
          go_wp2
          go_ret
          exact ⟨L, n, _, _, rfl, by omega, H9.out, fun b off x hx => by simp at hx; omega, R3.mono (by omega), H8.out⟩
end Go.Proofs.Ytmabhoglnapgdaa
