/- The walks of FnCountServedFirst and FnValidWishes. -/
import Derived.Test.YtmabhoglnapgdaaWishLaws5
namespace Go.Proofs.Ytmabhoglnapgdaa
open Go.ChangeShapes Go.WideShapes Go.ChangeAt Go.RowKit
set_option linter.unusedVariables false

def hastyW (L : Nat → Wi) : Nat → Wi := fun i => ⟨(L i).at_, (L i).hold, 0⟩
theorem hasty_okW {L : Nat → Wi} {n : Nat} (h : okW L n = true) : okW (hastyW L) n = true := by
  refine okW_all.2 fun k hk => ?_
  have a := okW_at h k hk
  have e : lastA (hastyW L) k = lastA L k := by cases k with
    | zero => rfl
    | succ k => rfl
  have d : (hastyW L k).at_ = (L k).at_ ∧ (hastyW L k).hold = (L k).hold ∧ (hastyW L k).pat = 0 := ⟨rfl, rfl, rfl⟩
  omega
theorem hasty_okS {L : Nat → Wi} {n : Nat} {many : Int} (h : okS L n many = true) : okS (hastyW L) n many = true := by
  simp only [okS, Bool.and_eq_true] at h ⊢
  have a := vW_yes h.1
  refine ⟨?_, h.2⟩
  simp only [vW, Bool.and_eq_true, decide_eq_true_eq]
  exact ⟨hasty_okW a.1, a.2⟩
theorem hasty_out {L : Nat → Wi} {n : Nat} (h : okW L n = true) (q k : Nat) (hk : k < n) : outW (hastyW L) q k = -1 ∨ outW (hastyW L) q k = (L k).at_ := by
  have hp : (hastyW L k).pat = 0 := rfl
  have ha : (hastyW L k).at_ = (L k).at_ := rfl
  rcases outW_facts (hasty_okW h) q k hk with h1 | h1
  · exact .inl h1
  · right; omega
theorem hasty_long {L : Nat → Wi} {n : Nat} (h : okW L n = true) (q : Nat) : longW (hastyW L) q n = 0 := by
  rcases longW_attained (L := hastyW L) (m := q) (n := n) with h1 | ⟨k, h1, h2, h3⟩
  · exact h1
  · have a := hasty_out h q k h1
    have ha : (hastyW L k).at_ = (L k).at_ := rfl
    have b := okW_facts h k h1
    omega

theorem own_slice' {w : World} {base : Nat} {e : TypeId} {s : Nat} {v : Value} {n : Nat} {xs : List Value} (h : w.ownsRow base e s v n xs) : ∃ a c, v = .slice a n c := by
  rcases h.2 with ⟨h1, h2⟩ | ⟨g, c, _, h1, _⟩
  · exact ⟨none, 0, by rw [h1, h2]⟩
  · exact ⟨_, _, h1⟩
set_option maxHeartbeats 1000000 in
theorem fnCountServedFirst_walk (ao : Option Addr) (n cap : Nat) (c : Nat → Int) (w : World) (h : Code8 w ao n cap c) : Calls Try.prog 17 #[.slice ao n cap] w (SaysTrue w) := by
  have hcap := code_len h
  by_cases hn : 1048576 < n
  · go_enter Try.func17, Try.ntmps17
    go_wp2
    go_ret
    exact ⟨rfl, Below.refl _ _⟩
  · go_enter Try.func17, Try.ntmps17
    go_wp2_with fail
    refine (drawCountServed_calls ao n cap c w h).mono ?_
    rintro e w1 ⟨L, m, a, k, u, rfl, hm, hu0, hu1, R1, B1⟩
    have D1 := Below.refl w1.heap.size w1
    have hml := R1.len
    cases hk : okS L m u
    · have HE := Lib.hid (show countS L m u = -1 by simp [countS, hk])
      clear hk
      go_wp2_with fail
      refine (implCountServed_v HE.out R1).mono ?_
      rintro e w2 ⟨rfl, hb2⟩
      have D2 := D1.trans (hb2.mono D1.size)
      go_wp2_with fail
      refine (specCountServed_v HE.out (R1.below D2)).mono ?_
      rintro e w3 ⟨rfl, hb3⟩
      have D3 := D2.trans (hb3.mono D2.size)
      go_wp2_with fail
      refine (specCountServed_v HE.out (R1.below D3)).mono ?_
      rintro e w4 ⟨rfl, hb4⟩
      have D4 := D3.trans (hb4.mono D3.size)
      go_wp2
      go_ret
      exact ⟨rfl, B1.trans (D4.mono B1.size)⟩
    · obtain ⟨q, rfl, hq1, hq6⟩ := okS_nat hk
      have HE := Lib.hid (show countS L m (q : Int) = (cntW L q m : Int) by simp [countS, hk])
      have hcl := cntW_le L q m
      have HOK := Lib.hid (vW_yes (okS_yes hk).1).1
      have HK := Lib.hid (hasty_okS hk)
      have HL := Lib.hid (show waitS (hastyW L) m (q : Int) = 0 by rw [waitS_good (hasty_okS hk), hasty_long (vW_yes (okS_yes hk).1).1])
      clear hk
      go_wp2_with fail
      refine (implCountServed_v HE.out R1).mono ?_
      rintro e w2 ⟨rfl, hb2⟩
      have D2 := D1.trans (hb2.mono D1.size)
      go_wp2_with fail
      refine (specCountServed_v HE.out (R1.below D2)).mono ?_
      rintro e w3 ⟨rfl, hb3⟩
      have D3 := D2.trans (hb3.mono D2.size)
      have O3 : (w3.alloc (.cells #[] 28)).ownsRow w3.heap.size 28 3 (.slice (some ⟨w3.heap.size, 0, none⟩) 0 0) 0 (rowsW (hastyW L) 0) := World.ownsRow_lit w3 #[] 0 (Nat.le_refl _) (Nat.zero_le _) rfl
      go_wp2
      go_loopw [6, 7] (fun o i wr => ∃ j : Nat, j ≤ m ∧ i = .int .i64 j ∧ wr.ownsRow w3.heap.size 28 3 o j (rowsW (hastyW L) j) ∧ Below w3.heap.size w3 wr) (fun _ i _ => m - (intOf i).toNat)
      case atStart => exact ⟨0, Nat.zero_le _, rfl, O3, by go_grown⟩
      case round =>
        obtain ⟨j, hj, rfl, hO, hB⟩ := hrel
        have D4 := D3.trans (hB.mono D3.size)
        have hz := hB.size
        have hz3 := D3.size
        by_cases hlt : j < m
        · obtain ⟨b, off, rfl, hb, hc⟩ := R1.pos (by omega)
          obtain ⟨q0, q1, q2⟩ := hc j hlt
          have c0 := (D4.cell (p := ⟨b, off + j * 3, none⟩) hb).trans q0
          have c1 := (D4.cell (p := ⟨b, off + j * 3 + 1, none⟩) hb).trans q1
          have i0 : (j : Int) < (m : Int) := by omega
          have hlo := hO.lt
          clear hc q2
          go_wp2
          go_region_held3 (fun w' => w'.cell? ⟨b, off + j * 3, none⟩ = some (.int .i64 (L j).at_) ∧ w'.cell? ⟨b, off + j * 3 + 1, none⟩ = some (.int .i64 (L j).hold)) (go_keep)
            (first | (refine step_app1 Try.underlying23 infoWish rfl (by decide) (by decide) (World.ownsRow.alloc (World.ownsRow.drew hO) _) (by omega) (by simp; omega) (by rfl) (by simp [Value.oneCell']) (heap_alloc_new _ _) _ _ (by rfl) (by rfl) (by rfl) (by rfl) ?_; intro v' w5 O5 G5; have B5 : Below w3.heap.size w3 w5 := Below.grown (Below.alloc (below_drew hB) hz _) G5 (by simp; omega) (fun g hg => (hlo g hg).1); have D5 := D3.trans (B5.mono hz3); have s0 := (D5.cell (p := ⟨b, off + j * 3, none⟩) hb).trans q0; have s1 := (D5.cell (p := ⟨b, off + j * 3 + 1, none⟩) hb).trans q1))
          have O6 : w5.ownsRow w3.heap.size 28 3 v' (j + 1) (rowsW (hastyW L) (j + 1)) := by rw [← rowsW_step]; exact O5
          have H6 := Lib.hid O6
          clear O5 O6 hO hlo
          go_wp2
          go_roundw
          case rel => exact ⟨j + 1, by omega, by go_num, H6.out, B5⟩
          case measure => simp [intOf]; omega
        · obtain rfl : j = m := by omega
          obtain ⟨g, cap', rfl⟩ := own_slice' hO
          have RH := RdW_of_own hO
          clear hO
          go_wp2_with fail
          refine (implServe_good HK.out RH).mono ?_
          rintro e w5 ⟨ag, cg, rfl, RG, hb5⟩
          have D5 := D4.trans (hb5.mono D4.size)
          have RH5 := RH.below hb5
          go_wp2
          go_loopw [9] (fun i wq => ∃ k : Nat, k ≤ j ∧ i = .int .i64 k ∧ Below w5.heap.size w5 wq) (fun i _ => j - (intOf i).toNat)
          case atStart => exact ⟨0, Nat.zero_le _, rfl, Below.refl _ _⟩
          case round =>
            obtain ⟨k, hk, rfl, hB'⟩ := hrel
            by_cases hlt' : k < j
            · obtain ⟨b, off, rfl, hb, hc⟩ := RH5.pos (by omega)
              obtain ⟨b2, o2, rfl, hbb, hg⟩ := RG.pos (by omega)
              have g0 := (hB'.cell (p := ⟨b2, o2 + k, none⟩) hbb).trans (hg k hlt')
              have c0 := (hB'.cell (p := ⟨b, off + k * 3, none⟩) hb).trans (hc k hlt').1
              have i0 : (k : Int) < (j : Int) := by omega
              have wk := okW_facts HOK.out k hlt'
              have ho := hasty_out HOK.out q k hlt'
              have ha : (hastyW L k).at_ = (L k).at_ := rfl
              rw [ha] at c0
              clear hc hg ha
              generalize outW (hastyW L) q k = x at *
              rcases ho with rfl | rfl
              · go_wp2
                go_quiet (fail)
                go_wp2
                go_roundw
                case rel => exact ⟨k + 1, by omega, by go_num, below_drewN hB' _⟩
                case measure => simp [intOf]; omega
              · have e0 : ((L k).at_ != -1) = true := by simp; omega
                go_wp2
                go_quiet (fail)
                go_wp2
                go_roundw
                case rel => exact ⟨k + 1, by omega, by go_num, below_drewN hB' _⟩
                case measure => simp [intOf]; omega
            · obtain rfl : k = j := by omega
              have D6 := D5.trans (hB'.mono D5.size)
              have W := implLongestWait_v HL.out (RH5.below hB')
              go_wp2_with (go_at_call 31; refine (W).mono ?_; rintro e w' ⟨rfl, hb7⟩)
              go_ret
              exact ⟨rfl, B1.trans ((D6.trans (hb7.mono D6.size)).mono B1.size)⟩
end Go.Proofs.Ytmabhoglnapgdaa
