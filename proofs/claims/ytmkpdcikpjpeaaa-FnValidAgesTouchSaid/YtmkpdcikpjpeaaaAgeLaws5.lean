/- The walks of FnTouchConn, FnTouchConnEnd, FnValidAgesTouch. -/
import Derived.Test.YtmkpdcikpjpeaaaAgeLaws3
namespace Go.Proofs.Ytmkpdcikpjpeaaa
open Go.ChangeShapes Go.WideShapes Go.ChangeAt Go.RowKit
set_option linter.unusedVariables false

/-- A list in new memory, read, and a bool. -/
def At2A (w : World) (N : Nat) (M : Nat → Ag) (ok : Bool) (e : Ending) (w' : World) : Prop := ∃ a c, e = .returned (.tuple #[.slice a N c, .bool ok]) ∧ RdA w' a N c M ∧ Below w.heap.size w w'
section
variable {ao : Option Addr} {n cap : Nat} {L : Nat → Ag} {conn now : Int} {w : World}
theorem at2_of {N : Nat} {M : Nat → Ag} {ok : Bool} {e : Ending} {w' : World} (h : Own2A w N M ok e w') : At2A w N M ok e w' := by
  obtain ⟨a, c, d, rfl, p, q, r, ho, hb⟩ := h
  exact ⟨a, c, rfl, Rd.recap (RdA_of_own ho) p q r, hb⟩
theorem implTouch_yes (hk : touchOk L n conn now = true) (h : RdA w ao n cap L) : Calls Try.prog 27 #[.slice ao n cap, .int .i64 conn, .int .i64 now] w (At2A w n (touchA L conn now) true) := by
  have := (implTouchConn_own ao n cap L conn now w h).mono fun _ _ h => at2_of h
  simpa [touchN, hk] using this
theorem specTouch_yes (hk : touchOk L n conn now = true) (h : RdA w ao n cap L) : Calls Try.prog 28 #[.slice ao n cap, .int .i64 conn, .int .i64 now] w (At2A w n (touchA L conn now) true) := by
  have := (specTouchConn_own ao n cap L conn now w h).mono fun _ _ h => at2_of h
  simpa [touchN, hk] using this
theorem implTouch_no (hk : touchOk L n conn now = false) (h : RdA w ao n cap L) : Calls Try.prog 27 #[.slice ao n cap, .int .i64 conn, .int .i64 now] w (At2A w 0 (touchA L conn now) false) := by
  have := (implTouchConn_own ao n cap L conn now w h).mono fun _ _ h => at2_of h
  simpa [touchN, hk] using this
theorem specTouch_no (hk : touchOk L n conn now = false) (h : RdA w ao n cap L) : Calls Try.prog 28 #[.slice ao n cap, .int .i64 conn, .int .i64 now] w (At2A w 0 (touchA L conn now) false) := by
  have := (specTouchConn_own ao n cap L conn now w h).mono fun _ _ h => at2_of h
  simpa [touchN, hk] using this
theorem equalA_at {a b : Option Addr} {c d : Nat} {I : Nat → Ag} (h : RdA w a n c I) (h' : RdA w b n d I) : Calls Try.prog 29 #[.slice a n c, .slice b n d] w fun e w' => e = .returned (.bool true) ∧ Below w.heap.size w w' := equalAges_calls a b n c d I w h h'
end
theorem touch_twiceOk {L : Nat → Ag} {n : Nat} {conn now : Int} (h : touchOk L n conn now = true) : touchOk (touchA L conn now) n conn now = true := by
  have hv := touch_valid h
  simp only [touchOk, Bool.and_eq_true] at h ⊢
  exact ⟨⟨hv, h.1.2⟩, h.2⟩

set_option maxHeartbeats 800000 in
theorem fnTouchConnEnd_walk (ao : Option Addr) (n cap : Nat) (c : Nat → Int) (w : World) (h : Code8 w ao n cap c) : Calls Try.prog 12 #[.slice ao n cap] w (SaysTrue w) := by
  have hcap := code_len h
  by_cases hn : 1048576 < n
  · go_enter Try.func12, Try.ntmps12
    go_wp2
    go_ret
    exact ⟨rfl, Below.refl _ _⟩
  · go_enter Try.func12, Try.ntmps12
    go_wp2_with fail
    refine (drawTouchConn_calls ao n cap c w h).mono ?_
    rintro e w1 ⟨L, m, a, cp, conn, now, rfl, hm, hx, hy, R1, B1⟩
    have D1 := Below.refl w1.heap.size w1
    have hml := R1.len
    cases hk : touchOk L m conn now
    · have HK := Lib.hid hk
      clear hk
      go_wp2_with fail
      refine (implTouch_no HK.out R1).mono ?_
      rintro e w2 ⟨ag, cg, rfl, RG, hb2⟩
      have D2 := D1.trans (hb2.mono D1.size)
      go_wp2_with fail
      refine (specTouch_no HK.out (R1.below D2)).mono ?_
      rintro e w3 ⟨sa, cs, rfl, RS3, hb3⟩
      have D3 := D2.trans (hb3.mono D2.size)
      go_wp2_with fail
      refine (equalA_at (RG.below hb3) RS3).mono ?_
      rintro e w4 ⟨rfl, hb4⟩
      have D4 := D3.trans (hb4.mono D3.size)
      go_wp2_with fail
      refine (equalA_at ((RG.below hb3).below hb4) (RS3.below hb4)).mono ?_
      rintro e w5 ⟨rfl, hb5⟩
      have D5 := D4.trans (hb5.mono D4.size)
      go_wp2
      go_ret
      exact ⟨rfl, B1.trans (D5.mono B1.size)⟩
    · have HK := Lib.hid hk
      have HT := Lib.hid (touch_twiceOk hk)
      have htw := touch_twice L conn now
      have hva : vA L m = true := by simp only [touchOk, Bool.and_eq_true] at hk; exact hk.1.1
      have hvt := touch_valid hk
      have ha1 : argsA L m 100 20 = true := by simp only [argsA, hva, Bool.true_and]; rfl
      have ha2 : argsA (touchA L conn now) m 100 20 = true := by simp only [argsA, hvt, Bool.true_and]; rfl
      have hle : nextEnd L m 100 20 ≤ nextEnd (touchA L conn now) m 100 20 := nextEnd_mono ha1 ha2 fun k hk => by
        unfold touchA endA
        split
        · simp only; omega
        · exact Int.le_refl _
      generalize hn1 : nextEnd L m 100 20 = n1 at hle
      generalize hn2 : nextEnd (touchA L conn now) m 100 20 = n2 at hle
      have HN1 := Lib.hid hn1
      have HN2 := Lib.hid hn2
      have HTW := Lib.hid htw
      clear hk htw hva hvt ha1 ha2 hn1 hn2
      go_wp2_with fail
      refine (implTouch_yes HK.out R1).mono ?_
      rintro e w2 ⟨ag, cg, rfl, RG, hb2⟩
      have D2 := D1.trans (hb2.mono D1.size)
      go_wp2_with fail
      refine (specTouch_yes HK.out (R1.below D2)).mono ?_
      rintro e w3 ⟨sa, cs, rfl, RS3, hb3⟩
      have D3 := D2.trans (hb3.mono D2.size)
      have RG3 := RG.below hb3
      go_wp2_with fail
      refine (equalA_at RG3 RS3).mono ?_
      rintro e w4 ⟨rfl, hb4⟩
      have D4 := D3.trans (hb4.mono D3.size)
      have RG4 := RG3.below hb4
      go_wp2_with fail
      refine (implTouch_yes HT.out RG4).mono ?_
      rintro e w5 ⟨at5, ct5, rfl, RT, hb5⟩
      have D5 := D4.trans (hb5.mono D4.size)
      rw [HTW.out] at RT
      have RG5 := RG4.below hb5
      go_wp2_with fail
      refine (implNextEnd_v HN2.out RG5).mono ?_
      rintro e w6 ⟨rfl, hb6⟩
      have D6 := D5.trans (hb6.mono D5.size)
      go_wp2_with fail
      refine (implNextEnd_v HN1.out (R1.below D6)).mono ?_
      rintro e w7 ⟨rfl, hb7⟩
      have D7 := D6.trans (hb7.mono D6.size)
      go_wp2_with fail
      refine (equalA_at ((RT.below hb6).below hb7) ((RG5.below hb6).below hb7)).mono ?_
      rintro e w8 ⟨rfl, hb8⟩
      have D8 := D7.trans (hb8.mono D7.size)
      go_wp2
      go_ret
      exact ⟨rfl, B1.trans (D8.mono B1.size)⟩

set_option maxHeartbeats 1000000 in
theorem fnTouchConn_walk (ao : Option Addr) (n cap : Nat) (c : Nat → Int) (w : World) (h : Code8 w ao n cap c) : Calls Try.prog 9 #[.slice ao n cap] w (SaysTrue w) := by
  have hcap := code_len h
  by_cases hn : 1048576 < n
  · go_enter Try.func9, Try.ntmps9
    go_wp2
    go_ret
    exact ⟨rfl, Below.refl _ _⟩
  · go_enter Try.func9, Try.ntmps9
    go_wp2_with fail
    refine (drawTouchConn_calls ao n cap c w h).mono ?_
    rintro e w1 ⟨L, m, a, cp, conn, now, rfl, hm, hx, hy, R1, B1⟩
    have D1 := Below.refl w1.heap.size w1
    have hml := R1.len
    cases hk : touchOk L m conn now
    · have HK := Lib.hid hk
      clear hk
      go_wp2_with fail
      refine (implTouch_no HK.out R1).mono ?_
      rintro e w2 ⟨ag, cg, rfl, RG, hb2⟩
      have D2 := D1.trans (hb2.mono D1.size)
      go_wp2_with fail
      refine (specTouch_no HK.out (R1.below D2)).mono ?_
      rintro e w3 ⟨sa, cs, rfl, RS3, hb3⟩
      have D3 := D2.trans (hb3.mono D2.size)
      go_wp2_with fail
      refine (equalA_at (RG.below hb3) RS3).mono ?_
      rintro e w4 ⟨rfl, hb4⟩
      have D4 := D3.trans (hb4.mono D3.size)
      go_wp2_with fail
      refine (equalA_at ((RG.below hb3).below hb4) (RS3.below hb4)).mono ?_
      rintro e w5 ⟨rfl, hb5⟩
      have D5 := D4.trans (hb5.mono D4.size)
      go_wp2
      go_ret
      exact ⟨rfl, B1.trans (D5.mono B1.size)⟩
    · have HK := Lib.hid hk
      have HVT := Lib.hid (touch_valid hk)
      obtain ⟨q, hq, hqm⟩ : ∃ q : Nat, conn = (q : Int) ∧ q < m := by
        simp only [touchOk, Bool.and_eq_true] at hk
        have := inB_yes hk.1.2
        exact ⟨conn.toNat, by omega, by omega⟩
      subst hq
      clear hk
      go_wp2_with fail
      refine (implTouch_yes HK.out R1).mono ?_
      rintro e w2 ⟨ag, cg, rfl, RG, hb2⟩
      have D2 := D1.trans (hb2.mono D1.size)
      go_wp2_with fail
      refine (specTouch_yes HK.out (R1.below D2)).mono ?_
      rintro e w3 ⟨sa, cs, rfl, RS3, hb3⟩
      have D3 := D2.trans (hb3.mono D2.size)
      have RG3 := RG.below hb3
      go_wp2_with fail
      refine (equalA_at RG3 RS3).mono ?_
      rintro e w4 ⟨rfl, hb4⟩
      have D4 := D3.trans (hb4.mono D3.size)
      have RG4 := RG3.below hb4
      have RR4 := R1.below D4
      go_wp2
      go_loopw [10] (fun i wr => ∃ j : Nat, j ≤ m ∧ i = .int .i64 j ∧ Below w4.heap.size w4 wr) (fun i _ => m - (intOf i).toNat)
      case atStart => exact ⟨0, Nat.zero_le _, rfl, Below.refl _ _⟩
      case round =>
        obtain ⟨j, hj, rfl, hB⟩ := hrel
        have hz := hB.size
        by_cases hlt : j < m
        · obtain ⟨b, off, rfl, hb, hc⟩ := RR4.pos (by omega)
          obtain ⟨b2, o2, rfl, hbb, hg⟩ := RG4.pos (by omega)
          have c0 := (hB.cell (p := ⟨b, off + j * 2, none⟩) hb).trans (hc j hlt).1
          have c1 := (hB.cell (p := ⟨b, off + j * 2 + 1, none⟩) hb).trans (hc j hlt).2
          have g0 := (hB.cell (p := ⟨b2, o2 + j * 2, none⟩) hbb).trans (hg j hlt).1
          have g1 := (hB.cell (p := ⟨b2, o2 + j * 2 + 1, none⟩) hbb).trans (hg j hlt).2
          have i0 : (j : Int) < (m : Int) := by omega
          have i1 : decide (m ≤ j) = false := by simp; omega
          have gA0 : ∀ o : Obj, (wr.alloc o).cell? ⟨b2, o2 + j * 2, none⟩ = wr.cell? ⟨b2, o2 + j * 2, none⟩ := fun o => ((Below.refl wr.heap.size wr).alloc (Nat.le_refl _) o).cell (p := ⟨b2, o2 + j * 2, none⟩) (Nat.lt_of_lt_of_le hbb hz)
          have gA1 : ∀ o : Obj, (wr.alloc o).cell? ⟨b2, o2 + j * 2 + 1, none⟩ = wr.cell? ⟨b2, o2 + j * 2 + 1, none⟩ := fun o => ((Below.refl wr.heap.size wr).alloc (Nat.le_refl _) o).cell (p := ⟨b2, o2 + j * 2 + 1, none⟩) (Nat.lt_of_lt_of_le hbb hz)
          have n1 : ¬ wr.heap.size = b := by omega
          have n2 : ¬ wr.heap.size = b2 := by omega
          have n3 : ¬ b = wr.heap.size := by omega
          have n4 : ¬ b2 = wr.heap.size := by omega
          clear hc hg
          by_cases hjq : j = q
          · subst hjq
            have ht : touchA L (j : Int) now j = ⟨(L j).born, max (L j).used now⟩ := by simp [touchA]
            rw [ht] at g0 g1
            clear ht
            by_cases hmx : (L j).used < now
            · have hmax : max (L j).used now = now := by omega
              rw [hmax] at g1
              clear hmax
              go_wp2
              go_quiet (fail)
              go_wp2
              go_roundw
              case rel => exact ⟨j + 1, by omega, by go_num, below_drewN (by go_grown) _⟩
              case measure => simp [intOf]; omega
            · have hmax : max (L j).used now = (L j).used := by omega
              rw [hmax] at g1
              clear hmax
              go_wp2
              go_quiet (fail)
              go_wp2
              go_roundw
              case rel => exact ⟨j + 1, by omega, by go_num, below_drewN (by go_grown) _⟩
              case measure => simp [intOf]; omega
          · have ht : touchA L (q : Int) now j = L j := by unfold touchA; rw [if_neg (by omega)]
            rw [ht] at g0 g1
            have hjq' : ((j : Int) == (q : Int)) = false := by simp; omega
            clear ht
            go_wp2
            go_quiet (fail)
            go_wp2
            go_roundw
            case rel => exact ⟨j + 1, by omega, by go_num, below_drewN (by go_grown) _⟩
            case measure => simp [intOf]; omega
        · obtain rfl : j = m := by omega
          have V := implValidAges_v HVT.out (RG4.below hB)
          go_wp2_with (go_at_call 18; refine (V).mono ?_; rintro e w' ⟨rfl, hb5⟩)
          go_ret
          exact ⟨rfl, B1.trans ((D4.trans ((hB.trans (hb5.mono hB.size)).mono D4.size)).mono B1.size)⟩

def freshA (L : Nat → Ag) : Nat → Ag := fun i => ⟨(L i).born, (L i).born⟩
theorem fresh_valid {L : Nat → Ag} {n : Nat} (h : vA L n = true) : vA (freshA L) n = true := by
  have a := vA_facts h
  refine vA_mk a.1 fun k hk => ?_
  have := a.2 k hk
  show 0 ≤ (L k).born ∧ (L k).born ≤ 1000 ∧ (L k).born ≤ (L k).born ∧ (L k).born ≤ 1000
  omega

set_option maxHeartbeats 1000000 in
theorem fnValidAgesTouch_walk (ao : Option Addr) (n cap : Nat) (c : Nat → Int) (w : World) (h : Code8 w ao n cap c) : Calls Try.prog 4 #[.slice ao n cap] w (SaysTrue w) := by
  have hcap := code_len h
  by_cases hn : 1048576 < n
  · go_enter Try.func4, Try.ntmps4
    go_wp2
    go_ret
    exact ⟨rfl, Below.refl _ _⟩
  · go_enter Try.func4, Try.ntmps4
    go_wp2_with fail
    refine (drawValidAges_calls ao n cap c w h).mono ?_
    rintro e w1 ⟨L, m, a, k, rfl, hm, R1, B1⟩
    have D1 := Below.refl w1.heap.size w1
    have hml := R1.len
    cases hv : vA L m
    · have HV := Lib.hid hv
      clear hv
      go_wp2_with fail
      refine (implValidAges_v HV.out R1).mono ?_
      rintro e w2 ⟨rfl, hb2⟩
      have D2 := D1.trans (hb2.mono D1.size)
      go_wp2_with fail
      refine (specValidAges_v HV.out (R1.below D2)).mono ?_
      rintro e w3 ⟨rfl, hb3⟩
      have D3 := D2.trans (hb3.mono D2.size)
      go_wp2_with fail
      refine (specValidAges_v HV.out (R1.below D3)).mono ?_
      rintro e w4 ⟨rfl, hb4⟩
      have D4 := D3.trans (hb4.mono D3.size)
      go_wp2
      go_ret
      exact ⟨rfl, B1.trans (D4.mono B1.size)⟩
    · have HV := Lib.hid hv
      have HM := Lib.hid (fresh_valid hv)
      clear hv
      go_wp2_with fail
      refine (implValidAges_v HV.out R1).mono ?_
      rintro e w2 ⟨rfl, hb2⟩
      have D2 := D1.trans (hb2.mono D1.size)
      go_wp2_with fail
      refine (specValidAges_v HV.out (R1.below D2)).mono ?_
      rintro e w3 ⟨rfl, hb3⟩
      have D3 := D2.trans (hb3.mono D2.size)
      have O3 : (w3.alloc (.cells #[] 28)).ownsRow w3.heap.size 28 2 (.slice (some ⟨w3.heap.size, 0, none⟩) 0 0) 0 (rowsA (freshA L) 0) := World.ownsRow_lit w3 #[] 0 (Nat.le_refl _) (Nat.zero_le _) rfl
      go_wp2
      go_loopw [5, 6] (fun o i wr => ∃ j : Nat, j ≤ m ∧ i = .int .i64 j ∧ wr.ownsRow w3.heap.size 28 2 o j (rowsA (freshA L) j) ∧ Below w3.heap.size w3 wr) (fun _ i _ => m - (intOf i).toNat)
      case atStart => exact ⟨0, Nat.zero_le _, rfl, O3, by go_grown⟩
      case round =>
        obtain ⟨j, hj, rfl, hO, hB⟩ := hrel
        have D4 := D3.trans (hB.mono D3.size)
        have hz := hB.size
        have hz3 := D3.size
        by_cases hlt : j < m
        · obtain ⟨b, off, rfl, hb, hc⟩ := R1.pos (by omega)
          obtain ⟨q0, q1⟩ := hc j hlt
          have c0 := (D4.cell (p := ⟨b, off + j * 2, none⟩) hb).trans q0
          have i0 : (j : Int) < (m : Int) := by omega
          have hlo := hO.lt
          clear hc q1
          go_wp2
          go_region_held3 (fun w' => w'.cell? ⟨b, off + j * 2, none⟩ = some (.int .i64 (L j).born)) (go_keep)
            (first | (refine step_app1 Try.underlying23 infoAge rfl (by decide) (by decide) (World.ownsRow.alloc (World.ownsRow.drew hO) _) (by omega) (by simp; omega) (by rfl) (by simp [Value.oneCell']) (heap_alloc_new _ _) _ _ (by rfl) (by rfl) (by rfl) (by rfl) ?_; intro v' w5 O5 G5; have B5 : Below w3.heap.size w3 w5 := Below.grown (Below.alloc (below_drew hB) hz _) G5 (by simp; omega) (fun g hg => (hlo g hg).1); have D5 := D3.trans (B5.mono hz3); have s0 := (D5.cell (p := ⟨b, off + j * 2, none⟩) hb).trans q0))
          have O6 : w5.ownsRow w3.heap.size 28 2 v' (j + 1) (rowsA (freshA L) (j + 1)) := by rw [← rowsA_step]; exact O5
          have H6 := Lib.hid O6
          clear O5 O6 hO hlo
          go_wp2
          go_roundw
          case rel => exact ⟨j + 1, by omega, by go_num, H6.out, B5⟩
          case measure => simp [intOf]; omega
        · obtain rfl : j = m := by omega
          obtain ⟨g, cap', rfl⟩ := own_slice hO
          have HO := Lib.hid (RdA_of_own hO)
          clear hO
          go_wp2_with fail
          refine (implValidAges_v HM.out HO.out).mono ?_
          rintro e w5 ⟨rfl, hb5⟩
          have D5 := D4.trans (hb5.mono D4.size)
          go_wp2
          go_ret
          exact ⟨rfl, B1.trans (D5.mono B1.size)⟩
end Go.Proofs.Ytmkpdcikpjpeaaa
