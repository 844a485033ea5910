/- The walk of FnBreakerPathGood. -/
import Derived.Test.YtcgnaokpdlbhbaaPathLaws2
namespace Go.Proofs.Ytcgnaokpdlbhbaa
open Go.ChangeShapes Go.WideShapes Go.ChangeAt Go.RowKit
set_option linter.unusedVariables false

/-- The breaker, shut. -/
def shutB (b : Bk) : Bk := ⟨b.limit, b.rest, 0, 0, b.since⟩
theorem shut_valid {b : Bk} (h : vB b = true) : vB (shutB b) = true := by
  have := vB_facts h
  exact vB_mk (by simp [shutB]; omega)
theorem shut_stays (b : Bk) (T : Nat → Int) : ∀ k, stB (shutB b) (fun _ => true) T k = shutB b := by
  intro k
  induction k with
  | zero => rfl
  | succ k ih =>
    rw [stB_step, ih]
    simp [stepB, letsB, beginB, endB, shutB]
theorem shut_path (b : Bk) (T : Nat → Int) : stS (shutB b) (fun _ => true) T = fun _ => 0 := by
  funext k
  unfold stS
  rw [shut_stays]; rfl

set_option maxHeartbeats 1600000 in
theorem fnBreakerPathGood_walk (ao : Option Addr) (n cap : Nat) (c : Nat → Int) (w : World) (h : Code8 w ao n cap c) : Calls Try.prog 17 #[.slice ao n cap] w (SaysTrue w) := by
  have hcap := code_len8 h
  by_cases hn : 1048576 < n
  · go_enter Try.func17, Try.ntmps17
    go_wp2
    go_ret
    exact ⟨rfl, Below.refl _ _⟩
  · go_enter Try.func17, Try.ntmps17
    go_wp2_with fail
    refine (drawBreakerPath_calls ao n cap c w h).mono ?_
    rintro e w0 ⟨b, k, G, ag, cg, m, T, at', ct, rfl, hk, hm, RG0, RT0, B0⟩
    have D1 : Below w.heap.size w (w0.alloc (.cells #[.int .i64 b.limit, .int .i64 b.rest, .int .i64 b.state, .int .i64 b.fails, .int .i64 b.since] 25)) := B0.alloc B0.size _
    have RG1 := RG0.below ((Below.refl w0.heap.size w0).alloc (Nat.le_refl _) (.cells #[.int .i64 b.limit, .int .i64 b.rest, .int .i64 b.state, .int .i64 b.fails, .int .i64 b.since] 25))
    have RT1 := RT0.below ((Below.refl w0.heap.size w0).alloc (Nat.le_refl _) (.cells #[.int .i64 b.limit, .int .i64 b.rest, .int .i64 b.state, .int .i64 b.fails, .int .i64 b.since] 25))
    have X1 := heap_alloc_new w0 (.cells #[.int .i64 b.limit, .int .i64 b.rest, .int .i64 b.state, .int .i64 b.fails, .int .i64 b.since] 25)
    have HX1 := Lib.hid X1
    clear X1 RG0 RT0
    rcases path_cases b k m G T with hZ | ⟨rfl, h0, h12, hv, hok⟩
    · have HZ := Lib.hid hZ
      clear hZ
      go_wp2_with fail
      generalize (w0.alloc (.cells #[.int .i64 b.limit, .int .i64 b.rest, .int .i64 b.state, .int .i64 b.fails, .int .i64 b.since] 25)) = w1 at *
      go_wp2_with fail
      refine (implPath_none HZ.out RG1 RT1).mono ?_
      rintro e w2 ⟨ao2, co, rfl, RO, hb2⟩
      have D2 := D1.trans (hb2.mono D1.size)
      obtain ⟨x0, x1, x2, x3, x4, _, _, _, _, _⟩ := blk5 (keepBel hb2 HX1.out)
      go_wp2_with fail
      refine (specPath_none HZ.out (RG1.below hb2) (RT1.below hb2)).mono ?_
      rintro e w3 ⟨as3, cs, rfl, RS3, hb3⟩
      have D3 := D2.trans (hb3.mono D2.size)
      clear x0 x1 x2 x3 x4
      go_wp2_with fail
      refine (equalInts_calls _ _ _ _ _ _ _ (RO.below hb3) RS3).mono ?_
      rintro e w4 ⟨rfl, hb4⟩
      have D4 := D3.trans (hb4.mono D3.size)
      obtain ⟨x0, x1, x2, x3, x4, _, _, _, _, _⟩ := blk5 (keepBel hb4 (keepBel hb3 (keepBel hb2 HX1.out)))
      go_wp2_with fail
      refine (specPath_none HZ.out (((RG1.below hb2).below hb3).below hb4) (((RT1.below hb2).below hb3).below hb4)).mono ?_
      rintro e w5 ⟨as5, cs5, rfl, RS5, hb5⟩
      have D5 := D4.trans (hb5.mono D4.size)
      clear x0 x1 x2 x3 x4
      go_wp2_with fail
      refine (equalInts_calls _ _ _ _ _ _ _ (((RO.below hb3).below hb4).below hb5) RS5).mono ?_
      rintro e w6 ⟨rfl, hb6⟩
      have D6 := D5.trans (hb6.mono D5.size)
      go_wp2
      go_ret
      exact ⟨rfl, D6⟩
    · have HV := Lib.hid hv
      have HOK := Lib.hid hok
      clear hv hok
      go_wp2_with fail
      generalize (w0.alloc (.cells #[.int .i64 b.limit, .int .i64 b.rest, .int .i64 b.state, .int .i64 b.fails, .int .i64 b.since] 25)) = w1 at *
      go_wp2_with fail
      refine (implPath_yes HV.out h12 HOK.out RG1 RT1).mono ?_
      rintro e w2 ⟨ao2, co, rfl, RO, hb2⟩
      have D2 := D1.trans (hb2.mono D1.size)
      obtain ⟨x0, x1, x2, x3, x4, _, _, _, _, _⟩ := blk5 (keepBel hb2 HX1.out)
      go_wp2_with fail
      refine (specPath_yes HV.out h12 HOK.out (RG1.below hb2) (RT1.below hb2)).mono ?_
      rintro e w3 ⟨as3, cs, rfl, RS3, hb3⟩
      have D3 := D2.trans (hb3.mono D2.size)
      clear x0 x1 x2 x3 x4
      go_wp2_with fail
      refine (equalInts_calls _ _ _ _ _ _ _ (RO.below hb3) RS3).mono ?_
      rintro e w4 ⟨rfl, hb4⟩
      have D4 := D3.trans (hb4.mono D3.size)
      have X4 := keepBel hb4 (keepBel hb3 (keepBel hb2 HX1.out))
      have HX4 := Lib.hid X4
      have HRG := Lib.hid (((RG1.below hb2).below hb3).below hb4)
      have HRT := Lib.hid (((RT1.below hb2).below hb3).below hb4)
      have e0 : ((k : Int) == 0) = false := by simp; omega
      have hs4 := D4.size
      clear RG1 RT1 RO RS3 X4
      have OE := World.ownsRow_lit (e := 4) (size := 1) w4 #[] 0 (Nat.le_refl _) (Nat.zero_le _) rfl
      have BE : Below w4.heap.size w4 (w4.alloc (.cells #[] 4)) := (Below.refl _ _).alloc (Nat.le_refl _) _
      have HOE := Lib.hid OE
      have HBE := Lib.hid BE
      clear OE BE
      go_wp2
      go_loopw [7, 8] (fun o i wr => ∃ j : Nat, j ≤ k ∧ i = .int .i64 j ∧ wr.ownsRow w4.heap.size 4 1 o j (((List.range j).map (fun _ => true)).map Value.bool) ∧ Below w4.heap.size w4 wr) (fun _ i _ => k - (intOf i).toNat)
      case atStart => exact ⟨0, Nat.zero_le _, rfl, HOE.out, HBE.out⟩
      case round =>
        obtain ⟨j, hj, rfl, hO, hB⟩ := hrel
        obtain ⟨oa, oc, rfl⟩ := own_slice hO
        by_cases hlt : j < k
        · have HOj := Lib.hid hO
          have hzs := hB.size
          have hlt2 := hO.lt
          clear hO
          go_wp2_with (at_builtin; refine app1 Try.underlying42 infoBool rfl (by decide) (by decide) HOj.out (by omega) (by omega) rfl (by simp [Value.oneCell']) _ _ rfl rfl rfl rfl ?_)
          intro v' w5 O5 G5
          have e : ((List.range (j + 1)).map (fun _ => true)).map Value.bool = ((List.range j).map (fun _ => true)).map Value.bool ++ [Value.bool true] := by simp [List.range_succ]
          have O6 := O5
          have B5 : Below w4.heap.size w4 w5 := hB.grown G5 hzs (fun g hg => (hlt2 g hg).1)
          have HO5 := Lib.hid (show w5.ownsRow w4.heap.size 4 1 v' (j + 1) (((List.range (j + 1)).map (fun _ => true)).map Value.bool) by rw [e]; simpa using O5)
          clear O5 O6 G5 e
          go_wp2
          go_roundw
          case rel => exact ⟨j + 1, by omega, by go_num, HO5.out, B5⟩
          case measure => simp [intOf]; omega
        · obtain rfl : j = k := by omega
          have RA := RdB_own hO
          have HRA := Lib.hid RA
          obtain ⟨x0, x1, x2, x3, x4, _, _, _, _, _⟩ := blk5 (keepBel hB HX4.out)
          have I := implPath_yes (shut_valid HV.out) h12 (show okTo (shutB b).since T j = true from HOK.out) HRA.out (HRT.out.below hB)
          rw [shut_path] at I
          have I2 : Calls Try.prog 36 #[.agg #[.int .i64 b.limit, .int .i64 b.rest, .int .i64 0, .int .i64 0, .int .i64 b.since], .slice oa j oc, .slice at' j ct] wr (PathF wr j (fun _ => 0)) := I
          clear hO RA I
          go_wp2_with fail
          refine I2.mono ?_
          rintro e w6 ⟨a6, c6, rfl, R6, hb6⟩
          have D6 := (D4.trans (hB.mono hs4)).trans (hb6.mono (by have := hB.size; omega))
          have HR6 := Lib.hid R6
          clear I2 R6
          go_wp2
          go_loopw [10] (fun i wr => ∃ q : Nat, q ≤ j ∧ i = .int .i64 q ∧ Below w6.heap.size w6 wr) (fun i _ => j - (intOf i).toNat)
          case atStart => exact ⟨0, Nat.zero_le _, rfl, Below.refl _ _⟩
          case round =>
            obtain ⟨q, hq, rfl, hB7⟩ := hrel
            by_cases hlt2 : q < j
            · obtain ⟨b6, o6, rfl, hb6', hc6⟩ := (HR6.out.below hB7).pos (by omega)
              have cq := hc6 q hlt2
              have i0 : (q : Int) < (j : Int) := by omega
              clear hc6
              go_wp2
              go_roundw
              case rel => exact ⟨q + 1, by omega, by go_num, hB7⟩
              case measure => simp [intOf]; omega
            · go_wp2
              go_ret
              exact ⟨rfl, D6.trans (hB7.mono D6.size)⟩
end Go.Proofs.Ytcgnaokpdlbhbaa
