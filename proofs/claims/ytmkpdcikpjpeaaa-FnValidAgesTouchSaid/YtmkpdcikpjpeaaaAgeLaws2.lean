/- The walks of FnValidAges, FnNextEnd, FnNextEndNone, FnNextEndTouch. -/
import Derived.Test.YtmkpdcikpjpeaaaDrawAge
import Derived.Test.YtmkpdcikpjpeaaaAgeLaws1
import Derived.Test.YtmkpdcikpjpeaaaSteps
namespace Go.Proofs.Ytmkpdcikpjpeaaa
open Go.ChangeShapes Go.WideShapes Go.ChangeAt Go.RowKit
set_option linter.unusedVariables false

theorem code_len {w : World} {ao : Option Addr} {n cap : Nat} {c : Nat → Int} (h : Code8 w ao n cap c) : n ≤ 9223372036854775807 := by
  have := h.1; have := h.2.1; unfold maxLen at this; omega
section
variable {ao : Option Addr} {n cap : Nat} {L : Nat → Ag} {life rest now conn : Int} {w : World}
theorem implValidAges_v {v : Bool} (hv : vA L n = v) (h : RdA w ao n cap L) : Calls Try.prog 18 #[.slice ao n cap] w fun e w' => e = .returned (.bool v) ∧ Below w.heap.size w w' := by
  rw [← hv]; exact implValidAges_calls ao n cap L w h
theorem specValidAges_v {v : Bool} (hv : vA L n = v) (h : RdA w ao n cap L) : Calls Try.prog 19 #[.slice ao n cap] w fun e w' => e = .returned (.bool v) ∧ Below w.heap.size w w' := by
  rw [← hv]; exact specValidAges_calls ao n cap L w h
theorem implNextEnd_v {v : Int} (hv : nextEnd L n life rest = v) (h : RdA w ao n cap L) : Calls Try.prog 24 #[.slice ao n cap, .int .i64 life, .int .i64 rest] w fun e w' => e = .returned (.int .i64 v) ∧ Below w.heap.size w w' := by
  rw [← hv]; exact implNextEnd_calls ao n cap L life rest w h
theorem specNextEnd_v {v : Int} (hv : nextEnd L n life rest = v) (h : RdA w ao n cap L) : Calls Try.prog 23 #[.slice ao n cap, .int .i64 life, .int .i64 rest] w fun e w' => e = .returned (.int .i64 v) ∧ Below w.heap.size w w' := by
  rw [← hv]; exact specNextEnd_calls ao n cap L life rest w h
/-- Integers in new memory, read. -/
def EndAt (w : World) (N : Nat) (zs : List Int) (e : Ending) (w' : World) : Prop := ∃ a c, e = .returned (.slice a N c) ∧ RdI w' a N c (fun i => zs.getD i 0) ∧ Below w.heap.size w w'
theorem endAt_of {zs : List Int} {N : Nat} {e : Ending} {w' : World} (hN : zs.length = N) (h : IntsC w (endedN L n now life rest) (endedConns L n now life rest) e w') (hz : endedConns L n now life rest = zs) : EndAt w N zs e w' := by
  obtain ⟨_, a, c, d, rfl, p, q, r, ho, hb⟩ := h
  have e1 : endedN L n now life rest = N := by rw [endedN, hz, hN]
  rw [e1, hz] at ho
  rw [e1] at p ⊢
  exact ⟨a, c, rfl, Rd.recap (RdI_of_ownL hN ho) p q r, hb⟩
theorem implEnded_v {zs : List Int} {N : Nat} (hz : endedConns L n now life rest = zs) (hN : zs.length = N) (h : RdA w ao n cap L) : Calls Try.prog 30 #[.slice ao n cap, .int .i64 now, .int .i64 life, .int .i64 rest] w (EndAt w N zs) :=
  (implEndedConns_calls ao n cap L now life rest w h).mono fun _ _ h => endAt_of hN h hz
theorem specEnded_v {zs : List Int} {N : Nat} (hz : endedConns L n now life rest = zs) (hN : zs.length = N) (h : RdA w ao n cap L) : Calls Try.prog 35 #[.slice ao n cap, .int .i64 now, .int .i64 life, .int .i64 rest] w (EndAt w N zs) :=
  (specEndedConns_calls ao n cap L now life rest w h).mono fun _ _ h => endAt_of hN h hz
theorem equal_at {a b : Option Addr} {c d : Nat} {I : Nat → Int} (h : RdI w a n c I) (h' : RdI w b n d I) : Calls Try.prog 34 #[.slice a n c, .slice b n d] w fun e w' => e = .returned (.bool true) ∧ Below w.heap.size w w' := equalInts_calls a b n c d I w h h'
end

theorem vA_le {L : Nat → Ag} {n k : Nat} (h : vA L n = true) (hk : k ≤ n) : vA L k = true := by
  have a := vA_facts h
  exact vA_mk (by omega) fun j hj => a.2 j (by omega)
theorem vA_tail {L : Nat → Ag} {n : Nat} (h : vA L n = true) : vA (fun i => L (1 + i)) (n - 1) = true := by
  have a := vA_facts h
  exact vA_mk (by omega) fun j hj => a.2 (1 + j) (by omega)
theorem validNilA (w : World) : Calls Try.prog 18 #[.slice none 0 0] w fun e w' => e = .returned (.bool true) ∧ Below w.heap.size w w' :=
  implValidAges_v (L := fun _ => default) (n := 0) rfl (Rd.nil _ _ _)

theorem validNil1 (b off : Nat) (w : World) : Calls Try.prog 18 #[.slice (some ⟨b, off, none⟩) 0 0] w fun e w' => e = .returned (.bool true) ∧ Below w.heap.size w w' :=
  implValidAges_v (L := fun _ => default) (n := 0) rfl ⟨Nat.le_refl _, Nat.zero_le _, fun h => by simp at h, .inl rfl⟩
set_option maxHeartbeats 400000 in
theorem fnValidAges_walk (ao : Option Addr) (n cap : Nat) (c : Nat → Int) (w : World) (h : Code8 w ao n cap c) : Calls Try.prog 3 #[.slice ao n cap] w (SaysTrue w) := by
  have hcap := code_len h
  by_cases hn : 1048576 < n
  · go_enter Try.func3, Try.ntmps3
    go_wp2
    go_ret
    exact ⟨rfl, Below.refl _ _⟩
  · go_enter Try.func3, Try.ntmps3
    go_wp2_with fail
    refine (drawValidAges_calls ao n cap c w h).mono ?_
    rintro e w1 ⟨L, m, a, cp, rfl, hm, R1, B1⟩
    have D1 := Below.refl w1.heap.size w1
    have hml := R1.len
    cases hv : vA L m
    · have HV := Lib.hid hv
      clear hv
      go_wp2_with fail
      refine (implValidAges_v HV.out R1).mono ?_
      rintro e w2 ⟨rfl, hb2⟩
      have D2 := D1.trans (hb2.mono D1.size)
      go_wp2_with fail
      refine (specValidAges_v HV.out (R1.below D2)).mono ?_
      rintro e w3 ⟨rfl, hb3⟩
      have D3 := D2.trans (hb3.mono D2.size)
      go_wp2_with fail
      refine (specValidAges_v HV.out (R1.below D3)).mono ?_
      rintro e w4 ⟨rfl, hb4⟩
      have D4 := D3.trans (hb4.mono D3.size)
      go_wp2
      go_ret
      exact ⟨rfl, B1.trans (D4.mono B1.size)⟩
    · have HV := Lib.hid hv
      clear hv
      go_wp2_with fail
      refine (implValidAges_v HV.out R1).mono ?_
      rintro e w2 ⟨rfl, hb2⟩
      have D2 := D1.trans (hb2.mono D1.size)
      go_wp2_with fail
      refine (specValidAges_v HV.out (R1.below D2)).mono ?_
      rintro e w3 ⟨rfl, hb3⟩
      have D3 := D2.trans (hb3.mono D2.size)
      rcases Nat.eq_zero_or_pos m with h0 | h0
      · subst h0
        go_wp2_with fail
        refine (specValidAges_v HV.out (R1.below D3)).mono ?_
        rintro e w4 ⟨rfl, hb4⟩
        have D4 := D3.trans (hb4.mono D3.size)
        go_wp2
        go_ret
        exact ⟨rfl, B1.trans (D4.mono B1.size)⟩
      · have h0' : ((m : Int) == 0) = false := by simp; omega
        obtain ⟨b, off, rfl, hb, _⟩ := R1.pos h0
        have hmc := R1.1
        have hcm := R1.2.1
        unfold maxLen at hcm
        have V1 := Lib.hid (vA_le HV.out (show m - 1 ≤ m by omega))
        have V2 := Lib.hid (vA_tail HV.out)
        have i1 : (1 : Int) ≤ (m : Int) := by omega
        have i2 : (m : Int) ≤ (cp : Int) := by omega
        have R1' : Rd w1 2 (some ⟨b, off, none⟩) m cp (fun i j => acell (L i) j) := R1
        go_wp2_with fail
        refine (implValidAges_v V1.out (Rd.take (R1.below D3) (show m - 1 ≤ m by omega))).mono ?_
        rintro e w4 ⟨rfl, hb4⟩
        have D4 := D3.trans (hb4.mono D3.size)
        by_cases hcp : cp = 1
        · obtain rfl : m = 1 := by omega
          subst hcp
          go_wp2_with fail
          refine (validNil1 b off _).mono ?_
          rintro e w5 ⟨rfl, hb5⟩
          have D5 := D4.trans (hb5.mono D4.size)
          go_wp2_with fail
          refine (validNilA _).mono ?_
          rintro e w6 ⟨rfl, hb6⟩
          have D6 := D5.trans (hb6.mono D5.size)
          go_wp2
          go_ret
          exact ⟨rfl, B1.trans (D6.mono B1.size)⟩
        · have hcp' : ¬ (cp : Int) = 1 := by omega
          go_wp2_with fail
          refine (implValidAges_v V2.out (RdA.below (L := fun i => L (1 + i)) (Rd.drop R1' (show 1 ≤ m by omega)) D4)).mono ?_
          rintro e w5 ⟨rfl, hb5⟩
          have D5 := D4.trans (hb5.mono D4.size)
          go_wp2_with fail
          refine (validNilA _).mono ?_
          rintro e w6 ⟨rfl, hb6⟩
          have D6 := D5.trans (hb6.mono D5.size)
          go_wp2
          go_ret
          exact ⟨rfl, B1.trans (D6.mono B1.size)⟩

theorem nextEnd_pos {L : Nat → Ag} {n : Nat} {life rest : Int} (h : 0 ≤ nextEnd L n life rest) : argsA L n life rest = true ∧ 0 < n := by
  cases ha : argsA L n life rest
  · rw [nextEnd_bad ha] at h; omega
  · rcases nextEnd_facts ha with ⟨h1, h2⟩ | ⟨h1, _⟩
    · omega
    · exact ⟨rfl, h1⟩
theorem ended_nil {L : Nat → Ag} {n : Nat} {now life rest : Int} (ha : argsA L n life rest = true) (h0 : 0 ≤ now) (h1 : now ≤ 1000) (hno : ∀ j, j < n → now < endA (L j) j life rest) : endedConns L n now life rest = [] := by
  rw [endedConns_good ha h0 h1]
  cases hl : endedL L now life rest n with
  | nil => rfl
  | cons x l =>
    obtain ⟨k, h1, _, h3⟩ := endedL_mem.1 (show x ∈ endedL L now life rest n by rw [hl]; simp)
    have := hno k h1
    omega
theorem ended_some {L : Nat → Ag} {n : Nat} {now life rest : Int} (ha : argsA L n life rest = true) (h0 : 0 ≤ now) (h1 : now ≤ 1000) {j : Nat} (hj : j < n) (he : endA (L j) j life rest ≤ now) : 0 < (endedConns L n now life rest).length := by
  rw [endedConns_good ha h0 h1]
  have hm : (j : Int) ∈ endedL L now life rest n := endedL_mem.2 ⟨j, hj, rfl, he⟩
  exact List.length_pos_of_mem hm

theorem fnNextEnd_walk (ao : Option Addr) (n cap : Nat) (c : Nat → Int) (w : World) (h : Code8 w ao n cap c) : Calls Try.prog 10 #[.slice ao n cap] w (SaysTrue w) := by
  have hcap := code_len h
  by_cases hn : 1048576 < n
  · go_enter Try.func10, Try.ntmps10
    go_wp2
    go_ret
    exact ⟨rfl, Below.refl _ _⟩
  · go_enter Try.func10, Try.ntmps10
    go_wp2_with fail
    refine (drawNextEnd_calls ao n cap c w h).mono ?_
    rintro e w1 ⟨L, m, a, cp, x, y, rfl, hm, hx, hy, R1, B1⟩
    have D1 := Below.refl w1.heap.size w1
    have hml := R1.len
    generalize hnx : nextEnd L m x y = nx
    have HE := Lib.hid hnx
    go_wp2_with fail
    refine (implNextEnd_v HE.out R1).mono ?_
    rintro e w2 ⟨rfl, hb2⟩
    have D2 := D1.trans (hb2.mono D1.size)
    go_wp2_with fail
    refine (specNextEnd_v HE.out (R1.below D2)).mono ?_
    rintro e w3 ⟨rfl, hb3⟩
    have D3 := D2.trans (hb3.mono D2.size)
    by_cases hb1 : nx < 1
    · clear hnx
      go_wp2_with fail
      refine (specNextEnd_v HE.out (R1.below D3)).mono ?_
      rintro e w4 ⟨rfl, hb4⟩
      have D4 := D3.trans (hb4.mono D3.size)
      go_wp2
      go_ret
      exact ⟨ret_bool (by simp), B1.trans (D4.mono B1.size)⟩
    · by_cases hb2 : 1000 < nx
      · clear hnx
        go_wp2_with fail
        refine (specNextEnd_v HE.out (R1.below D3)).mono ?_
        rintro e w4 ⟨rfl, hb4⟩
        have D4 := D3.trans (hb4.mono D3.size)
        go_wp2
        go_ret
        exact ⟨ret_bool (by simp), B1.trans (D4.mono B1.size)⟩
      · obtain ⟨ha, hm0⟩ := nextEnd_pos (show 0 ≤ nextEnd L m x y by omega)
        obtain ⟨g1, g2, j, g3, g4⟩ : 1 ≤ nextEnd L m x y ∧ (∀ j, j < m → nextEnd L m x y ≤ endA (L j) j x y) ∧ ∃ j, j < m ∧ nextEnd L m x y = endA (L j) j x y := by
          rcases nextEnd_facts ha with ⟨h1, h2⟩ | ⟨h1, h2, h3, h4⟩
          · omega
          · exact ⟨h2, h3, h4⟩
        have E1 := Lib.hid (ended_nil ha (show 0 ≤ nx - 1 by omega) (by omega) (fun j hj => by have := g2 j hj; omega))
        have E2 := ended_some ha (show 0 ≤ nx by omega) (by omega) g3 (by omega)
        obtain ⟨zs, hzs⟩ : ∃ zs, endedConns L m nx x y = zs := ⟨_, rfl⟩
        rw [hzs] at E2
        have E3 := Lib.hid hzs
        generalize hN : zs.length = N at E2
        have HN := Lib.hid hN
        clear hnx g1 g2 g3 g4 ha hN hzs
        go_wp2_with fail
        refine (implEnded_v E1.out rfl (R1.below D3)).mono ?_
        rintro e w4 ⟨a4, c4, rfl, _, hb4⟩
        have D4 := D3.trans (hb4.mono D3.size)
        go_wp2_with fail
        refine (implEnded_v E3.out HN.out (R1.below D4)).mono ?_
        rintro e w5 ⟨a5, c5, rfl, _, hb5⟩
        have D5 := D4.trans (hb5.mono D4.size)
        go_wp2
        go_ret
        exact ⟨rfl, B1.trans (D5.mono B1.size)⟩

/-- One connection that was just born. -/
theorem rd_fresh (w : World) (b u : Int) : RdA (w.alloc (.cells #[.int .i64 b, .int .i64 u] 28)) (some ⟨w.heap.size, 0, none⟩) 1 1 (fun _ => ⟨b, u⟩) := by
  refine ⟨Nat.le_refl _, by unfold maxLen; omega, fun h => by simp at h, .inr ⟨w.heap.size, 0, rfl, by simp, fun i hi j hj => ?_⟩⟩
  obtain rfl : i = 0 := by omega
  rw [cell_of_row _ w.heap.size _ _ _ _ (heap_alloc_new w _)]
  have : j = 0 ∨ j = 1 := by omega
  rcases this with rfl | rfl <;> rfl
theorem fresh_next {b life rest : Int} (hb0 : 0 ≤ b) (hb1 : b ≤ 1000) (hl : inB 1 1000 life = true) (hr : inB 1 1000 rest = true) : nextEnd (fun _ => (⟨b, b⟩ : Ag)) 1 life rest = b + min life rest := by
  have a : vA (fun _ => (⟨b, b⟩ : Ag)) 1 = true := vA_mk (by omega) (fun k hk => by simp; omega)
  have ha : argsA (fun _ => (⟨b, b⟩ : Ag)) 1 life rest = true := by simp [argsA, a, hl, hr]
  have h1 := inB_yes hl
  have h2 := inB_yes hr
  have e : nextL (fun _ => (⟨b, b⟩ : Ag)) life rest 1 = endA ⟨b, b⟩ 0 life rest := if_pos (.inl (by show (-1 : Int) < 0; omega))
  rw [nextEnd, if_pos ha, e]
  simp only [endA, lifeOf_zero]
  omega

set_option maxHeartbeats 400000 in
theorem fnNextEndTouch_walk (ao : Option Addr) (n cap : Nat) (c : Nat → Int) (w : World) (h : Code8 w ao n cap c) : Calls Try.prog 8 #[.slice ao n cap] w (SaysTrue w) := by
  have hcap := code_len h
  by_cases hn : 1048576 < n
  · go_enter Try.func8, Try.ntmps8
    go_wp2
    go_ret
    exact ⟨rfl, Below.refl _ _⟩
  · go_enter Try.func8, Try.ntmps8
    go_wp2_with fail
    refine (drawNextEnd_calls ao n cap c w h).mono ?_
    rintro e w1 ⟨L, m, a, cp, x, y, rfl, hm, hx, hy, R1, B1⟩
    have D1 := Below.refl w1.heap.size w1
    have hml := R1.len
    generalize hnx : nextEnd L m x y = nx
    have HE := Lib.hid hnx
    go_wp2_with fail
    refine (implNextEnd_v HE.out R1).mono ?_
    rintro e w2 ⟨rfl, hb2⟩
    have D2 := D1.trans (hb2.mono D1.size)
    go_wp2_with fail
    refine (specNextEnd_v HE.out (R1.below D2)).mono ?_
    rintro e w3 ⟨rfl, hb3⟩
    have D3 := D2.trans (hb3.mono D2.size)
    by_cases hb1 : nx < 0
    · clear hnx
      go_wp2_with fail
      refine (specNextEnd_v HE.out (R1.below D3)).mono ?_
      rintro e w4 ⟨rfl, hb4⟩
      have D4 := D3.trans (hb4.mono D3.size)
      go_wp2
      go_ret
      exact ⟨ret_bool (by simp), B1.trans (D4.mono B1.size)⟩
    · obtain ⟨ha, hm0⟩ := nextEnd_pos (show 0 ≤ nextEnd L m x y by omega)
      obtain ⟨hva, hl1, hl2, hr1, hr2⟩ := argsA_yes ha
      have hm0' : ((m : Int) == 0) = false := by simp; omega
      have v0 := (vA_facts hva).2 0 hm0
      have hle : nx ≤ (L 0).born + x := by
        rcases nextEnd_facts ha with ⟨h1, h2⟩ | ⟨h1, h2, h3, h4⟩
        · omega
        · have := h3 0 hm0
          simp only [endA, lifeOf_zero] at this
          omega
      have HF := Lib.hid (fresh_next v0.1 v0.2.1 (inB_mk ⟨hl1, hl2⟩) (inB_mk ⟨hr1, hr2⟩))
      obtain ⟨b, off, rfl, hb, hc⟩ := R1.pos hm0
      have c0 := (D3.cell (p := ⟨b, off + 0 * 2, none⟩) hb).trans (hc 0 hm0).1
      simp only [Nat.zero_mul, Nat.add_zero] at c0
      have D3' : Below w1.heap.size w1 (w3.alloc (.cells #[.int .i64 (L 0).born, .int .i64 (L 0).born] 28)) := D3.alloc D3.size _
      have cb := (D3'.cell (p := ⟨b, off + 0 * 2, none⟩) hb).trans (hc 0 hm0).1
      simp only [Nat.zero_mul, Nat.add_zero] at cb
      have i0 : (0 : Int) < (m : Int) := by omega
      clear hnx ha hva hc
      go_wp2_with fail
      refine (implNextEnd_v HF.out (rd_fresh w3 (L 0).born (L 0).born)).mono ?_
      rintro e w4 ⟨rfl, hb4⟩
      have D4 := D3'.trans (hb4.mono D3'.size)
      have c4 := (hb4.cell (p := ⟨b, off, none⟩) (by have := D3'.size; exact Nat.lt_of_lt_of_le hb this)).trans cb
      by_cases hxy : x ≤ y
      · have hmin : min x y = x := by omega
        rw [hmin]
        clear hmin
        go_wp2
        all_goals
          first
          | (exfalso; omega)
          | (go_ret
             exact ⟨ret_bool (by first | (simp; done) | (simp; omega)), B1.trans (D4.mono B1.size)⟩)
      · have hmin : min x y = y := by omega
        rw [hmin]
        clear hmin
        go_wp2
        all_goals
          first
          | (exfalso; omega)
          | (go_ret
             exact ⟨ret_bool (by first | (simp; done) | (simp; omega)), B1.trans (D4.mono B1.size)⟩)
end Go.Proofs.Ytmkpdcikpjpeaaa
