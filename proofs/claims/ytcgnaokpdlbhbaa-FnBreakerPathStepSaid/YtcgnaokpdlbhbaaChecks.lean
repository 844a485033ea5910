/- The drawn list of checks: at most 13 bools in new memory. -/
import Derived.Test.YtcgnaokpdlbhbaaBools
namespace Go.Proofs.Ytcgnaokpdlbhbaa
open Go.ChangeShapes Go.WideShapes Go.ChangeAt Go.RowKit
set_option linter.unusedVariables false

def Drawn (B : Nat) (w : World) (r : Nat) (sl : Value) (K : Nat) (e : Ending) (w' : World) : Prop :=
  ∃ (L : List Bool) (ao : Option Addr) (cap : Nat), e = .returned (.slice ao L.length cap) ∧ L.length ≤ 13 ∧ RdB w' ao L.length cap (fun i => L.getD i false) ∧ (∀ b off x, ao = some ⟨b, off, x⟩ → w.heap.size ≤ b) ∧ RS B w' r sl (K + 40) ∧ w.grownBy w' (some r)

theorem someChecks_calls {B : Nat} {r : Nat} {sl : Value} {K : Nat} (w : World) (h : RS B w r sl K) (hK : K ≤ 100000) :
    Calls Try.prog 61 #[.pointer (some ⟨r, 0, none⟩)] w (Drawn B w r sl K) := by
  have hrlt := h.lt
  have hbase := h.base
  go_enter Try.func61, Try.ntmps61
  go_wp2_with fail
  refine (one1 [6, 8, 12, 4, 1, 0, 13] rfl ((h.alloc _).alloc _) (by omega) (lit_heap' [6, 8, 12, 4, 1, 0, 13] (by simp)) (by simp) (by simp)).mono ?_
  rintro e w1 ⟨u, hu, rfl, R1, G1⟩
  have G1' : w.grownBy w1 (some r) := grown_trans (grown_trans (World.grownBy_alloc w _ (some r)) (World.grownBy_alloc _ _ none) (fun g hg => by simp at hg)) G1 (fun g hg => .inr hg)
  obtain ⟨j0, rfl, hj0⟩ : ∃ j : Nat, u = (j : Int) ∧ j ≤ 13 := ⟨u.toNat, by simp at hu; omega, by simp at hu; omega⟩
  have O1 : w1.ownsRow w.heap.size 4 1 (.slice (some ⟨w.heap.size, 0, none⟩) 0 0) 0 (([] : List Bool).map Value.bool) := by
    refine World.ownsRow.kept (w := (w.alloc (.cells #[] 4)).alloc _) ?_ G1 ?_
    · exact (World.ownsRow_lit w #[] 0 (Nat.le_refl _) (Nat.zero_le _) rfl).alloc _
    · right; simp [Value.ownBlock]; omega
  clear hu G1
  go_wp2
  go_loopw [3, 4, 5] (fun o l nn wr => ∃ (xs : List Bool) (lb : Bool) (j : Nat), l = .bool lb ∧ nn = .int .i64 j ∧ wr.ownsRow w.heap.size 4 1 o xs.length (xs.map Value.bool) ∧ xs.length + j ≤ 13 ∧ RS B wr r sl (K + 1 + xs.length) ∧ w.grownBy wr (some r))
    (fun _ _ nn _ => (intOf nn).toNat)
  case atStart => exact ⟨[], true, j0, rfl, rfl, O1, by simpa using hj0, R1, G1'⟩
  case round =>
    obtain ⟨xs, lb, j, rfl, rfl, hown, hxj, hR, hG⟩ := hrel
    have HO := hown
    by_cases hj : 0 < j
    · go_wp2_with fail
      refine (pick1 3 hR (by omega)).mono ?_
      rintro e w2 ⟨x, rfl, hx0, hx1, R2, G2⟩
      have O2 := hown.kept G2 (.inr (fun e => by have := hown.lt _ e; omega))
      have hG2 := grown_trans hG G2 (fun g hg => .inr hg)
      have hsz := hG2.size
      clear hx1 hown HO hG hR G2
      by_cases hx : x = 0
      · subst hx
        go_wp2_with (at_builtin; refine app1 Try.underlying42 infoBool rfl (by decide) (by decide) O2 (by omega) (by omega) rfl (by simp [Value.oneCell']) _ _ rfl rfl rfl rfl ?_)
        intro v' w3 O3 G3
        have O3' : w3.ownsRow w.heap.size 4 1 v' (xs ++ [!lb]).length ((xs ++ [!lb]).map Value.bool) := by simpa using O3
        have R3 : RS B w3 r sl (K + 1 + (xs ++ [!lb]).length) := (R2.grown G3 (fun g hg => by have := O2.lt g hg; omega)).mono (by simp; omega)
        have hG3 := grown_trans hG2 G3 (fun g hg => by have := O2.lt g hg; omega)
        clear O3 G3 O2 R2 hG2
        go_wp2
        go_roundw
        case rel => exact ⟨xs ++ [!lb], !lb, j - 1, by simp, by go_num, O3', by simp; omega, R3, hG3⟩
        case measure => simp [intOf]; omega
      · have hx' : (x == 0) = false := by simp [hx]
        go_wp2_with (at_builtin; refine app1 Try.underlying42 infoBool rfl (by decide) (by decide) O2 (by omega) (by omega) rfl (by simp [Value.oneCell']) _ _ rfl rfl rfl rfl ?_)
        intro v' w3 O3 G3
        have O3' : w3.ownsRow w.heap.size 4 1 v' (xs ++ [lb]).length ((xs ++ [lb]).map Value.bool) := by simpa using O3
        have R3 : RS B w3 r sl (K + 1 + (xs ++ [lb]).length) := (R2.grown G3 (fun g hg => by have := O2.lt g hg; omega)).mono (by simp; omega)
        have hG3 := grown_trans hG2 G3 (fun g hg => by have := O2.lt g hg; omega)
        clear O3 G3 O2 R2 hG2
        go_wp2
        go_roundw
        case rel => exact ⟨xs ++ [lb], lb, j - 1, by simp, by go_num, O3', by simp; omega, R3, hG3⟩
        case measure => simp [intOf]; omega
    · obtain rfl : j = 0 := by omega
      obtain ⟨ao, cap, hv, hr, hg⟩ := RdB_of_own hown
      subst hv
      clear hown HO
      go_wp2
      go_ret
      exact ⟨xs, ao, cap, rfl, by omega, hr, hg, hR.mono (by omega), hG⟩
end Go.Proofs.Ytcgnaokpdlbhbaa
