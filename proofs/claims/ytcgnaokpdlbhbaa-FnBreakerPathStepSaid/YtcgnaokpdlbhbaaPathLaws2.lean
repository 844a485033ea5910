/- The walk of FnBreakerPath. -/
import Derived.Test.YtcgnaokpdlbhbaaDrawPath2
import Derived.Test.YtcgnaokpdlbhbaaMarkIntsC
namespace Go.Proofs.Ytcgnaokpdlbhbaa
open Go.ChangeShapes Go.WideShapes Go.ChangeAt Go.RowKit
set_option linter.unusedVariables false

/-- What BreakerPath answers, read. -/
def PathF (w : World) (n : Nat) (F : Nat → Int) (e : Ending) (w' : World) : Prop := ∃ a c, e = .returned (.slice a n c) ∧ RdI w' a n c F ∧ Below w.heap.size w w'
theorem pathF_of {w w' : World} {n : Nat} {F : Nat → Int} {Z : List Int} {e : Ending} (hZ : Z = (List.range n).map F) (h : PathR w Z e w') : PathF w n F e w' := by
  obtain ⟨a, c, rfl, ho, hb⟩ := h
  subst hZ
  have hl : ((List.range n).map F).length = n := by simp
  rw [hl] at ho
  exact ⟨a, c, by rw [hl], RdI_own ho, hb⟩
theorem path_cases (b : Bk) (n m : Nat) (G : Nat → Bool) (T : Nat → Int) : pathB b n m G T = [] ∨ (n = m ∧ 0 < n ∧ n ≤ 12 ∧ vB b = true ∧ okTo b.since T n = true) := by
  cases h : validP b n m T
  · exact .inl (pathB_bad h)
  · by_cases h0 : 0 < n
    · right
      simp only [validP, Bool.and_eq_true, decide_eq_true_eq] at h
      exact ⟨h.1.2, h0, h.1.1.2, h.1.1.1, h.2⟩
    · obtain rfl : n = 0 := by omega
      left; rw [pathB_good h]; rfl
section
variable {b : Bk} {ag at' : Option Addr} {n m cg ct : Nat} {G : Nat → Bool} {T : Nat → Int} {w : World}
theorem implPath_none (h : pathB b n m G T = []) (hG : RdB w ag n cg G) (hT : RdI w at' m ct T) : Calls Try.prog 36 #[.agg #[.int .i64 b.limit, .int .i64 b.rest, .int .i64 b.state, .int .i64 b.fails, .int .i64 b.since], .slice ag n cg, .slice at' m ct] w (PathF w 0 (fun _ => 0)) :=
  (implBreakerPath_own b ag n cg G at' m ct T w hG hT).mono fun _ _ hr => pathF_of h hr
theorem specPath_none (h : pathB b n m G T = []) (hG : RdB w ag n cg G) (hT : RdI w at' m ct T) : Calls Try.prog 33 #[.agg #[.int .i64 b.limit, .int .i64 b.rest, .int .i64 b.state, .int .i64 b.fails, .int .i64 b.since], .slice ag n cg, .slice at' m ct] w (PathF w 0 (fun _ => 0)) :=
  (specBreakerPath_own b ag n cg G at' m ct T w hG hT).mono fun _ _ hr => pathF_of h hr
theorem implPath_yes (hv : vB b = true) (hn : n ≤ 12) (ht : okTo b.since T n = true) (hG : RdB w ag n cg G) (hT : RdI w at' n ct T) : Calls Try.prog 36 #[.agg #[.int .i64 b.limit, .int .i64 b.rest, .int .i64 b.state, .int .i64 b.fails, .int .i64 b.since], .slice ag n cg, .slice at' n ct] w (PathF w n (stS b G T)) :=
  (implBreakerPath_own b ag n cg G at' n ct T w hG hT).mono fun _ _ hr => pathF_of (path_all hv hn ht) hr
theorem specPath_yes (hv : vB b = true) (hn : n ≤ 12) (ht : okTo b.since T n = true) (hG : RdB w ag n cg G) (hT : RdI w at' n ct T) : Calls Try.prog 33 #[.agg #[.int .i64 b.limit, .int .i64 b.rest, .int .i64 b.state, .int .i64 b.fails, .int .i64 b.since], .slice ag n cg, .slice at' n ct] w (PathF w n (stS b G T)) :=
  (specBreakerPath_own b ag n cg G at' n ct T w hG hT).mono fun _ _ hr => pathF_of (path_all hv hn ht) hr
end
theorem code_len8 {w : World} {ao : Option Addr} {n cap : Nat} {c : Nat → Int} (h : Code8 w ao n cap c) : n ≤ 9223372036854775807 := by
  have := h.1; have := h.2.1; unfold maxLen at this; omega

set_option maxHeartbeats 1600000 in
theorem fnBreakerPath_walk (ao : Option Addr) (n cap : Nat) (c : Nat → Int) (w : World) (h : Code8 w ao n cap c) : Calls Try.prog 16 #[.slice ao n cap] w (SaysTrue w) := by
  have hcap := code_len8 h
  by_cases hn : 1048576 < n
  · go_enter Try.func16, Try.ntmps16
    go_wp2
    go_ret
    exact ⟨rfl, Below.refl _ _⟩
  · go_enter Try.func16, Try.ntmps16
    go_wp2_with fail
    refine (drawBreakerPath_calls ao n cap c w h).mono ?_
    rintro e w0 ⟨b, k, G, ag, cg, m, T, at', ct, rfl, hk, hm, RG0, RT0, B0⟩
    have D1 : Below w.heap.size w (w0.alloc (.cells #[.int .i64 b.limit, .int .i64 b.rest, .int .i64 b.state, .int .i64 b.fails, .int .i64 b.since] 25)) := B0.alloc B0.size _
    have RG1 := RG0.below ((Below.refl w0.heap.size w0).alloc (Nat.le_refl _) (.cells #[.int .i64 b.limit, .int .i64 b.rest, .int .i64 b.state, .int .i64 b.fails, .int .i64 b.since] 25))
    have RT1 := RT0.below ((Below.refl w0.heap.size w0).alloc (Nat.le_refl _) (.cells #[.int .i64 b.limit, .int .i64 b.rest, .int .i64 b.state, .int .i64 b.fails, .int .i64 b.since] 25))
    have X1 := heap_alloc_new w0 (.cells #[.int .i64 b.limit, .int .i64 b.rest, .int .i64 b.state, .int .i64 b.fails, .int .i64 b.since] 25)
    have HX1 := Lib.hid X1
    clear X1 RG0 RT0
    rcases path_cases b k m G T with hZ | ⟨rfl, h0, h12, hv, hok⟩
    · have HZ := Lib.hid hZ
      clear hZ
      go_wp2_with fail
      generalize (w0.alloc (.cells #[.int .i64 b.limit, .int .i64 b.rest, .int .i64 b.state, .int .i64 b.fails, .int .i64 b.since] 25)) = w1 at *
      go_wp2_with fail
      refine (implPath_none HZ.out RG1 RT1).mono ?_
      rintro e w2 ⟨ao2, co, rfl, RO, hb2⟩
      have D2 := D1.trans (hb2.mono D1.size)
      obtain ⟨x0, x1, x2, x3, x4, _, _, _, _, _⟩ := blk5 (keepBel hb2 HX1.out)
      go_wp2_with fail
      refine (specPath_none HZ.out (RG1.below hb2) (RT1.below hb2)).mono ?_
      rintro e w3 ⟨as3, cs, rfl, RS3, hb3⟩
      have D3 := D2.trans (hb3.mono D2.size)
      clear x0 x1 x2 x3 x4
      go_wp2_with fail
      refine (equalInts_calls _ _ _ _ _ _ _ (RO.below hb3) RS3).mono ?_
      rintro e w4 ⟨rfl, hb4⟩
      have D4 := D3.trans (hb4.mono D3.size)
      obtain ⟨x0, x1, x2, x3, x4, _, _, _, _, _⟩ := blk5 (keepBel hb4 (keepBel hb3 (keepBel hb2 HX1.out)))
      go_wp2_with fail
      refine (specPath_none HZ.out (((RG1.below hb2).below hb3).below hb4) (((RT1.below hb2).below hb3).below hb4)).mono ?_
      rintro e w5 ⟨as5, cs5, rfl, RS5, hb5⟩
      have D5 := D4.trans (hb5.mono D4.size)
      clear x0 x1 x2 x3 x4
      go_wp2_with fail
      refine (equalInts_calls _ _ _ _ _ _ _ (((RO.below hb3).below hb4).below hb5) RS5).mono ?_
      rintro e w6 ⟨rfl, hb6⟩
      have D6 := D5.trans (hb6.mono D5.size)
      go_wp2
      go_ret
      exact ⟨rfl, D6⟩
    · have HV := Lib.hid hv
      have HOK := Lib.hid hok
      clear hv hok
      go_wp2_with fail
      generalize (w0.alloc (.cells #[.int .i64 b.limit, .int .i64 b.rest, .int .i64 b.state, .int .i64 b.fails, .int .i64 b.since] 25)) = w1 at *
      go_wp2_with fail
      refine (implPath_yes HV.out h12 HOK.out RG1 RT1).mono ?_
      rintro e w2 ⟨ao2, co, rfl, RO, hb2⟩
      have D2 := D1.trans (hb2.mono D1.size)
      obtain ⟨x0, x1, x2, x3, x4, _, _, _, _, _⟩ := blk5 (keepBel hb2 HX1.out)
      go_wp2_with fail
      refine (specPath_yes HV.out h12 HOK.out (RG1.below hb2) (RT1.below hb2)).mono ?_
      rintro e w3 ⟨as3, cs, rfl, RS3, hb3⟩
      have D3 := D2.trans (hb3.mono D2.size)
      clear x0 x1 x2 x3 x4
      go_wp2_with fail
      refine (equalInts_calls _ _ _ _ _ _ _ (RO.below hb3) RS3).mono ?_
      rintro e w4 ⟨rfl, hb4⟩
      have D4 := D3.trans (hb4.mono D3.size)
      obtain ⟨n1, rfl⟩ : ∃ n1, k = n1 + 1 := ⟨k - 1, by omega⟩
      have X4 := keepBel hb4 (keepBel hb3 (keepBel hb2 HX1.out))
      have HX4 := Lib.hid X4
      obtain ⟨x0, x1, x2, x3, x4, _, _, _, _, _⟩ := blk5 X4
      have RG4 := ((RG1.below hb2).below hb3).below hb4
      have RT4 := ((RT1.below hb2).below hb3).below hb4
      have RO4 := (RO.below hb3).below hb4
      have hG4 := RG4.1
      have hT4 := RT4.1
      have hO4 := RO4.1
      have hG5 := RG4.2.1
      have hT5 := RT4.2.1
      have hO5 := RO4.2.1
      unfold maxLen at hG5 hT5 hO5
      obtain ⟨gb, gf, rfl, hgb, _⟩ := RG4.pos (by omega)
      obtain ⟨tb, tf, rfl, htb, _⟩ := RT4.pos (by omega)
      obtain ⟨ob, of, rfl, hob, _⟩ := RO4.pos (by omega)
      have HRG := Lib.hid RG4
      have HRT := Lib.hid RT4
      have HRO := Lib.hid RO4
      have HOK1 := Lib.hid (okTo_le HOK.out n1 (by omega))
      have e0 : (((n1 : Int) + 1) == 0) = false := by simp; omega
      have hw1 : IntKind.i64.wrap (n1 : Int) = (n1 : Int) := IntWalk.i64_in _ (by omega)
      have hw2 : IntKind.i64.wrap ((n1 : Int) + 1) = (n1 : Int) + 1 := IntWalk.i64_in _ (by omega)
      clear RG4 RT4 RO4 RG1 RT1 RO RS3 X4
      have j1 : (n1 : Int) ≤ (cg : Int) := by omega
      have j2 : (n1 : Int) ≤ (ct : Int) := by omega
      have j3 : (n1 : Int) ≤ (co : Int) := by omega
      have BD : Below w4.heap.size w4 w4.drew := below_drew (Below.refl _ _)
      have HBD := Lib.hid BD
      clear BD
      go_wp2
      go_region_held3 (fun W => W.cell? ⟨w0.heap.size, 0, none⟩ = some (.int .i64 b.limit) ∧ W.cell? ⟨w0.heap.size, 1, none⟩ = some (.int .i64 b.rest) ∧ W.cell? ⟨w0.heap.size, 2, none⟩ = some (.int .i64 b.state) ∧ W.cell? ⟨w0.heap.size, 3, none⟩ = some (.int .i64 b.fails) ∧ W.cell? ⟨w0.heap.size, 4, none⟩ = some (.int .i64 b.since)) (go_keep)
        (first
          | (go_at_call 36; refine (implPath_yes HV.out (by omega) HOK1.out (Rd.take (Rd.below HRG.out HBD.out) (by omega)) (Rd.take (Rd.below HRT.out HBD.out) (by omega))).mono ?_; rintro e w5 ⟨a5, c5, rfl, RI5, hb5⟩; have hB5 : Below w4.heap.size w4 w5 := HBD.out.trans (hb5.mono (Nat.le_refl _)); obtain ⟨y0, y1, y2, y3, y4, _, _, _, _, _⟩ := blk5 (keepBel hB5 HX4.out))
          | (go_at_call 43; refine (equalInts_calls _ _ _ _ _ _ _ RI5 (Rd.take (Rd.below HRO.out hB5) (by omega))).mono ?_; rintro e w6 ⟨rfl, hb6⟩; have hB6 : Below w4.heap.size w4 w6 := hB5.trans (hb6.mono hB5.size); obtain ⟨z0, z1, z2, z3, z4, _, _, _, _, _⟩ := blk5 (keepBel hB6 HX4.out)))
      go_wp2
      go_ret
      exact ⟨rfl, D4.trans (hB6.mono D4.size)⟩
end Go.Proofs.Ytcgnaokpdlbhbaa
