/- The walks of FnValidWishes, FnValidWishesMove, FnCountServedFirst. -/
import Derived.Test.YtmabhoglnapgdaaWishLaws3
import Derived.Test.YtmabhoglnapgdaaWishLaws1
import Derived.Test.YtmabhoglnapgdaaSteps
namespace Go.Proofs.Ytmabhoglnapgdaa
open Go.ChangeShapes Go.WideShapes Go.ChangeAt Go.RowKit
set_option linter.unusedVariables false

theorem specValidWishes_v {ao : Option Addr} {n cap : Nat} {L : Nat → Wi} {w : World} {v : Bool} (hv : vW L n = v) (h : RdW w ao n cap L) : Calls Try.prog 22 #[.slice ao n cap] w fun e w' => e = .returned (.bool v) ∧ Below w.heap.size w w' := by
  rw [← hv]; exact specValidWishes_calls ao n cap L w h

def moveW (L : Nat → Wi) : Nat → Wi := fun i => ⟨(L i).at_ + 1, (L i).hold, (L i).pat⟩
theorem rowsW_step (L : Nat → Wi) (n : Nat) : rowsW L n ++ wenc (L n) = rowsW L (n + 1) := by
  unfold rowsW; rw [List.range_succ, List.flatMap_append]; simp
theorem move_valid {L : Nat → Wi} {n : Nat} (h : vW L n = true) (hn : 0 < n) (hl : (L (n - 1)).at_ ≠ 1000) : vW (moveW L) n = true := by
  obtain ⟨h1, h2⟩ := vW_yes h
  have hmono : ∀ j, j < n → (L j).at_ ≤ (L (n - 1)).at_ := by
    have aux : ∀ d j, j + d = n - 1 → (L j).at_ ≤ (L (n - 1)).at_ := by
      intro d
      induction d with
      | zero => intro j hj; obtain rfl : j = n - 1 := by omega
                exact Int.le_refl _
      | succ d ih =>
        intro j hj
        have a := ih (j + 1) (by omega)
        have b := (okW_at h1 (j + 1) (by omega)).1
        simp only [lastA] at b
        omega
    intro j hj
    exact aux (n - 1 - j) j (by omega)
  simp only [vW, Bool.and_eq_true, decide_eq_true_eq]
  refine ⟨okW_all.2 fun k hk => ?_, h2⟩
  have a := okW_at h1 k hk
  have b := hmono k hk
  have c := okW_at h1 (n - 1) (by omega)
  have e : lastA (moveW L) k ≤ lastA L k + 1 := by cases k with
    | zero => simp [lastA]
    | succ k => simp [lastA, moveW]
  have d : (moveW L k).at_ = (L k).at_ + 1 ∧ (moveW L k).hold = (L k).hold ∧ (moveW L k).pat = (L k).pat := ⟨rfl, rfl, rfl⟩
  omega

set_option maxHeartbeats 1000000 in
theorem fnValidWishesMove_walk (ao : Option Addr) (n cap : Nat) (c : Nat → Int) (w : World) (h : Code8 w ao n cap c) : Calls Try.prog 4 #[.slice ao n cap] w (SaysTrue w) := by
  have hcap := code_len h
  by_cases hn : 1048576 < n
  · go_enter Try.func4, Try.ntmps4
    go_wp2
    go_ret
    exact ⟨rfl, Below.refl _ _⟩
  · go_enter Try.func4, Try.ntmps4
    go_wp2_with fail
    refine (drawValidWishes_calls ao n cap c w h).mono ?_
    rintro e w1 ⟨L, m, a, k, rfl, hm, R1, B1⟩
    have D1 := Below.refl w1.heap.size w1
    have hml := R1.len
    cases hv : vW L m
    · have HV := Lib.hid hv
      clear hv
      go_wp2_with fail
      refine (implValidWishes_v HV.out R1).mono ?_
      rintro e w2 ⟨rfl, hb2⟩
      have D2 := D1.trans (hb2.mono D1.size)
      go_wp2_with fail
      refine (specValidWishes_v HV.out (R1.below D2)).mono ?_
      rintro e w3 ⟨rfl, hb3⟩
      have D3 := D2.trans (hb3.mono D2.size)
      go_wp2_with fail
      refine (specValidWishes_v HV.out (R1.below D3)).mono ?_
      rintro e w4 ⟨rfl, hb4⟩
      have D4 := D3.trans (hb4.mono D3.size)
      go_wp2
      go_ret
      exact ⟨rfl, B1.trans (D4.mono B1.size)⟩
    · have HV := Lib.hid hv
      clear hv
      go_wp2_with fail
      refine (implValidWishes_v HV.out R1).mono ?_
      rintro e w2 ⟨rfl, hb2⟩
      have D2 := D1.trans (hb2.mono D1.size)
      go_wp2_with fail
      refine (specValidWishes_v HV.out (R1.below D2)).mono ?_
      rintro e w3 ⟨rfl, hb3⟩
      have D3 := D2.trans (hb3.mono D2.size)
      rcases Nat.eq_zero_or_pos m with h0 | h0
      · subst h0
        go_wp2_with fail
        refine (specValidWishes_v HV.out (R1.below D3)).mono ?_
        rintro e w4 ⟨rfl, hb4⟩
        have D4 := D3.trans (hb4.mono D3.size)
        go_wp2
        go_ret
        exact ⟨rfl, B1.trans (D4.mono B1.size)⟩
      · have h0' : ((m : Int) == 0) = false := by simp; omega
        obtain ⟨b, off, rfl, hb, hc⟩ := R1.pos h0
        have g0 := (D3.cell (p := ⟨b, off + (m - 1) * 3, none⟩) hb).trans (hc (m - 1) (by omega)).1
        by_cases hl : (L (m - 1)).at_ = 1000
        · have hl' : ((L (m - 1)).at_ == 1000) = true := by simp [hl]
          clear hc hl
          go_wp2_with fail
          refine (specValidWishes_v HV.out (R1.below D3)).mono ?_
          rintro e w4 ⟨rfl, hb4⟩
          have D4 := D3.trans (hb4.mono D3.size)
          go_wp2
          go_ret
          exact ⟨rfl, B1.trans (D4.mono B1.size)⟩
        · have hl' : ((L (m - 1)).at_ == 1000) = false := by simp [hl]
          have HM := Lib.hid (move_valid HV.out h0 hl)
          have HOK := Lib.hid (vW_yes HV.out).1
          clear hl
          have O3 : (w3.alloc (.cells #[] 28)).ownsRow w3.heap.size 28 3 (.slice (some ⟨w3.heap.size, 0, none⟩) 0 0) 0 (rowsW (moveW L) 0) := World.ownsRow_lit w3 #[] 0 (Nat.le_refl _) (Nat.zero_le _) rfl
          go_wp2
          go_loopw [5, 6] (fun o i wr => ∃ j : Nat, j ≤ m ∧ i = .int .i64 j ∧ wr.ownsRow w3.heap.size 28 3 o j (rowsW (moveW L) j) ∧ Below w3.heap.size w3 wr) (fun _ i _ => m - (intOf i).toNat)
          case atStart => exact ⟨0, Nat.zero_le _, rfl, O3, by go_grown⟩
          case round =>
            obtain ⟨j, hj, rfl, hO, hB⟩ := hrel
            have D4 := D3.trans (hB.mono D3.size)
            have hz := hB.size
            have hz3 := D3.size
            by_cases hlt : j < m
            · obtain ⟨q0, q1, q2⟩ := hc j hlt
              have c0 := (D4.cell (p := ⟨b, off + j * 3, none⟩) hb).trans q0
              have c1 := (D4.cell (p := ⟨b, off + j * 3 + 1, none⟩) hb).trans q1
              have c2 := (D4.cell (p := ⟨b, off + j * 3 + 2, none⟩) hb).trans q2
              have wk := okW_facts HOK.out j hlt
              have i0 : (j : Int) < (m : Int) := by omega
              have hw : IntKind.i64.wrap ((L j).at_ + 1) = (L j).at_ + 1 := IntWalk.i64_in _ (by omega)
              have hlo := hO.lt
              clear hc g0
              go_wp2
              go_region_held3 (fun w' => w'.cell? ⟨b, off + j * 3, none⟩ = some (.int .i64 (L j).at_) ∧ w'.cell? ⟨b, off + j * 3 + 1, none⟩ = some (.int .i64 (L j).hold) ∧ w'.cell? ⟨b, off + j * 3 + 2, none⟩ = some (.int .i64 (L j).pat)) (go_keep)
                (first | (refine step_app1 Try.underlying23 infoWish rfl (by decide) (by decide) (World.ownsRow.alloc (World.ownsRow.drew hO) _) (by omega) (by simp; omega) (by rfl) (by simp [Value.oneCell']) (heap_alloc_new _ _) _ _ (by rfl) (by rfl) (by rfl) (by rfl) ?_; intro v' w5 O5 G5; have B5 : Below w3.heap.size w3 w5 := Below.grown (Below.alloc (below_drew hB) hz _) G5 (by simp; omega) (fun g hg => (hlo g hg).1); have D5 := D3.trans (B5.mono hz3); have s0 := (D5.cell (p := ⟨b, off + j * 3, none⟩) hb).trans q0; have s1 := (D5.cell (p := ⟨b, off + j * 3 + 1, none⟩) hb).trans q1; have s2 := (D5.cell (p := ⟨b, off + j * 3 + 2, none⟩) hb).trans q2))
              have O6 : w5.ownsRow w3.heap.size 28 3 v' (j + 1) (rowsW (moveW L) (j + 1)) := by rw [← rowsW_step]; exact O5
              have H6 := Lib.hid O6
              clear O5 O6 hO hlo
              go_wp2
              go_roundw
              case rel => exact ⟨j + 1, by omega, by go_num, H6.out, B5⟩
              case measure => simp [intOf]; omega
            · obtain rfl : j = m := by omega
              obtain ⟨g, cap', rfl⟩ := own_form hO h0
              have HO := Lib.hid (RdW_of_own hO)
              clear hO hc g0
              go_wp2_with fail
              refine (implValidWishes_v HM.out HO.out).mono ?_
              rintro e w5 ⟨rfl, hb5⟩
              have D5 := D4.trans (hb5.mono D4.size)
              go_wp2
              go_ret
              exact ⟨rfl, B1.trans (D5.mono B1.size)⟩
end Go.Proofs.Ytmabhoglnapgdaa
