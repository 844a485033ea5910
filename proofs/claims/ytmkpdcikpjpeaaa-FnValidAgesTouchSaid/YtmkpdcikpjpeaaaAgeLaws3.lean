/- The walks of FnNextEndNone, FnEndedConns, FnEndedConnsLater, FnEndedConnsLife. -/
import Derived.Test.YtmkpdcikpjpeaaaAgeLaws2
namespace Go.Proofs.Ytmkpdcikpjpeaaa
open Go.ChangeShapes Go.WideShapes Go.ChangeAt Go.RowKit
set_option linter.unusedVariables false

theorem zero_next {life rest : Int} (hl : inB 1 1000 life = true) (hr : inB 1 1000 rest = true) : nextEnd (fun _ => (⟨0, 0⟩ : Ag)) 1 life rest = min life rest := by
  have := fresh_next (b := 0) (Int.le_refl _) (by omega) hl hr
  rw [this]; omega
theorem next_life {L : Nat → Ag} {n : Nat} {life rest : Int} (ha : argsA L n life rest = true) (h : life ≠ 1000) : nextEnd L n life rest ≤ nextEnd L n (life + 1) rest := by
  obtain ⟨hv, a, b, c, d⟩ := argsA_yes ha
  have ha' : argsA L n (life + 1) rest = true := by simp only [argsA, hv, Bool.true_and, Bool.and_eq_true]; exact ⟨inB_mk (by omega), inB_mk ⟨c, d⟩⟩
  refine nextEnd_mono ha ha' fun k hk => ?_
  have := lifeOf_mono (c := k) (life := life) (by have := (vA_facts hv).1; omega) a b
  unfold endA; omega
theorem next_rest {L : Nat → Ag} {n : Nat} {life rest : Int} (ha : argsA L n life rest = true) (h : rest ≠ 1000) : nextEnd L n life rest ≤ nextEnd L n life (rest + 1) := by
  obtain ⟨hv, a, b, c, d⟩ := argsA_yes ha
  have ha' : argsA L n life (rest + 1) = true := by simp only [argsA, hv, Bool.true_and, Bool.and_eq_true]; exact ⟨inB_mk ⟨a, b⟩, inB_mk (by omega)⟩
  refine nextEnd_mono ha ha' fun k hk => ?_
  unfold endA; omega

set_option maxHeartbeats 800000 in
theorem fnNextEndNone_walk (ao : Option Addr) (n cap : Nat) (c : Nat → Int) (w : World) (h : Code8 w ao n cap c) : Calls Try.prog 7 #[.slice ao n cap] w (SaysTrue w) := by
  have hcap := code_len h
  by_cases hn : 1048576 < n
  · go_enter Try.func7, Try.ntmps7
    go_wp2
    go_ret
    exact ⟨rfl, Below.refl _ _⟩
  · go_enter Try.func7, Try.ntmps7
    go_wp2_with fail
    refine (drawNextEnd_calls ao n cap c w h).mono ?_
    rintro e w1 ⟨L, m, a, cp, x, y, rfl, hm, hx, hy, R1, B1⟩
    have D1 := Below.refl w1.heap.size w1
    have hml := R1.len
    generalize hnx : nextEnd L m x y = nx
    have HE := Lib.hid hnx
    go_wp2_with fail
    refine (implNextEnd_v HE.out R1).mono ?_
    rintro e w2 ⟨rfl, hb2⟩
    have D2 := D1.trans (hb2.mono D1.size)
    go_wp2_with fail
    refine (specNextEnd_v HE.out (R1.below D2)).mono ?_
    rintro e w3 ⟨rfl, hb3⟩
    have D3 := D2.trans (hb3.mono D2.size)
    have D3' : Below w1.heap.size w1 (w3.alloc (.cells #[.int .i64 0, .int .i64 0] 28)) := D3.alloc D3.size _
    cases hs : (inB 1 1000 x && inB 1 1000 y)
    · have hz : nextEnd (fun _ => (⟨0, 0⟩ : Ag)) 1 x y = -1 := nextEnd_bad (by rw [argsA, Bool.and_assoc, hs, Bool.and_false])
      have HZ := Lib.hid hz
      clear hz hnx hs
      go_wp2_with fail
      refine (implNextEnd_v HZ.out (rd_fresh w3 0 0)).mono ?_
      rintro e w4 ⟨rfl, hb4⟩
      have D4 := D3'.trans (hb4.mono D3'.size)
      go_wp2_with fail
      refine (specNextEnd_v HE.out (R1.below D4)).mono ?_
      rintro e w5 ⟨rfl, hb5⟩
      have D5 := D4.trans (hb5.mono D4.size)
      go_wp2
      go_ret
      exact ⟨ret_bool (by simp), B1.trans (D5.mono B1.size)⟩
    · simp only [Bool.and_eq_true] at hs
      obtain ⟨hsx, hsy⟩ := hs
      have bx := inB_yes hsx
      have by' := inB_yes hsy
      have hz := zero_next hsx hsy
      generalize hmn : min x y = mn at hz
      have hmn1 : 1 ≤ mn := by omega
      have HZ := Lib.hid hz
      clear hz hmn
      go_wp2_with fail
      refine (implNextEnd_v HZ.out (rd_fresh w3 0 0)).mono ?_
      rintro e w4 ⟨rfl, hb4⟩
      have D4 := D3'.trans (hb4.mono D3'.size)
      cases hv : vA L m
      · have HV := Lib.hid hv
        clear hv hnx hsx hsy
        go_wp2_with fail
        refine (implValidAges_v HV.out (R1.below D4)).mono ?_
        rintro e w5 ⟨rfl, hb5⟩
        have D5 := D4.trans (hb5.mono D4.size)
        go_wp2_with fail
        refine (specNextEnd_v HE.out (R1.below D5)).mono ?_
        rintro e w6 ⟨rfl, hb6⟩
        have D6 := D5.trans (hb6.mono D5.size)
        go_wp2
        go_ret
        exact ⟨ret_bool (by simp), B1.trans (D6.mono B1.size)⟩
      · have ha : argsA L m x y = true := by simp [argsA, hv, hsx, hsy]
        have HV := Lib.hid hv
        have g1 : x ≠ 1000 → nx ≤ nextEnd L m (x + 1) y := fun hne => by rw [← hnx]; exact next_life ha hne
        have g2 : y ≠ 1000 → nx ≤ nextEnd L m x (y + 1) := fun hne => by rw [← hnx]; exact next_rest ha hne
        have hf : (nx == -1) = ((m : Int) == 0) := by
          rw [Bool.eq_iff_iff]
          simp
          rcases nextEnd_facts ha with ⟨h1, h2⟩ | ⟨h1, h2, _⟩ <;> omega
        have HFF := Lib.hid hf
        generalize hn1 : nextEnd L m (x + 1) y = n1 at g1
        generalize hn2 : nextEnd L m x (y + 1) = n2 at g2
        have HN1 := Lib.hid hn1
        have HN2 := Lib.hid hn2
        clear hv hnx hsx hsy ha hf hn1 hn2
        go_wp2_with fail
        refine (implValidAges_v HV.out (R1.below D4)).mono ?_
        rintro e w5 ⟨rfl, hb5⟩
        have D5 := D4.trans (hb5.mono D4.size)
        have hff := HFF.out
        generalize hbb : ((m : Int) == 0) = bb at hff
        have hw1 : IntKind.i64.wrap (x + 1) = x + 1 := IntWalk.i64_in _ (by omega)
        have hw2 : IntKind.i64.wrap (y + 1) = y + 1 := IntWalk.i64_in _ (by omega)
        by_cases hx10 : x = 1000
        · have hx' : (x == 1000) = true := by simp [hx10]
          clear g1
          by_cases hy10 : y = 1000
          · have hy' : (y == 1000) = true := by simp [hy10]
            clear g2 hx10 hy10
            go_wp2
            go_ret
            exact ⟨ret_bool (by simp), B1.trans (D5.mono B1.size)⟩
          · have hy' : (y == 1000) = false := by simp [hy10]
            have g2' := g2 hy10
            clear g2 hx10 hy10
            go_wp2_with fail
            refine (implNextEnd_v HN2.out (R1.below D5)).mono ?_
            rintro e w6 ⟨rfl, hb6⟩
            have D6 := D5.trans (hb6.mono D5.size)
            go_wp2
            go_ret
            exact ⟨ret_bool (by first | (simp; done) | (simp; omega)), B1.trans (D6.mono B1.size)⟩
        · have hx' : (x == 1000) = false := by simp [hx10]
          have g1' := g1 hx10
          clear g1
          go_wp2_with fail
          refine (implNextEnd_v HN1.out (R1.below D5)).mono ?_
          rintro e w6 ⟨rfl, hb6⟩
          have D6 := D5.trans (hb6.mono D5.size)
          by_cases hy10 : y = 1000
          · have hy' : (y == 1000) = true := by simp [hy10]
            clear g2 hx10 hy10
            go_wp2
            go_ret
            exact ⟨ret_bool (by first | (simp; done) | (simp; omega)), B1.trans (D6.mono B1.size)⟩
          · have hy' : (y == 1000) = false := by simp [hy10]
            have g2' := g2 hy10
            clear g2 hx10 hy10
            go_wp2_with fail
            refine (implNextEnd_v HN2.out (R1.below D6)).mono ?_
            rintro e w7 ⟨rfl, hb7⟩
            have D7 := D6.trans (hb7.mono D6.size)
            go_wp2
            go_ret
            exact ⟨ret_bool (by first | (simp; done) | (simp; omega)), B1.trans (D7.mono B1.size)⟩

/-! ### isIn -/
def hasI (f : Nat → Int) (x : Int) : Nat → Bool
  | 0 => false
  | k + 1 => hasI f x k || (f k == x)
theorem isIn_calls (ao : Option Addr) (n cap : Nat) (f : Nat → Int) (x : Int) (w : World) (h : RdI w ao n cap f) :
    Calls Try.prog 36 #[.slice ao n cap, .int .i64 x] w fun e w' => e = .returned (.bool (hasI f x n)) ∧ w = w' := by
  have hlen := h.len
  go_enter Try.func36, Try.ntmps36
  go_wp2
  go_loop [5] (fun i => ∃ k : Nat, k ≤ n ∧ i = .int .i64 k ∧ hasI f x k = false) (fun i => n - (intOf i).toNat)
  case atStart => exact ⟨0, Nat.zero_le _, rfl, rfl⟩
  case round =>
    obtain ⟨k, hk, rfl, hh⟩ := hrel
    have HH := Lib.hid hh
    clear hh
    by_cases hlt : k < n
    · obtain ⟨b, off, rfl, hb, hc⟩ := h.pos (by omega)
      have c0 := hc k hlt
      have i0 : (k : Int) < (n : Int) := by omega
      clear hc
      cases he : (f k == x)
      · have HN := Lib.hid (show hasI f x (k + 1) = false by simp only [hasI, HH.out, he]; rfl)
        go_wp2
        go_round
        case rel => exact ⟨k + 1, by omega, by go_num, HN.out⟩
        case measure => simp [intOf]; omega
      · have HN := Lib.hid (show hasI f x n = true from by
          have : ∀ j, k + 1 ≤ j → hasI f x j = true := by
            intro j
            induction j with
            | zero => intro h; omega
            | succ j ih =>
              intro h
              by_cases e : j = k
              · subst e; simp [hasI, he]
              · simp [hasI, ih (by omega)]
          exact this n hlt)
        go_wp2
        go_ret
        exact ⟨ret_bool HN.out.symm, rfl⟩
    · obtain rfl : k = n := by omega
      go_wp2
      go_ret
      exact ⟨ret_bool HH.out.symm, rfl⟩
theorem hasI_mem (zs : List Int) (x : Int) : ∀ n, n ≤ zs.length → (hasI (fun i => zs.getD i 0) x n = true ↔ x ∈ zs.take n) := by
  intro n
  induction n with
  | zero => intro _; simp [hasI]
  | succ n ih =>
    intro hn
    rw [List.take_succ_eq_append_getElem (by omega)]
    simp only [hasI, Bool.or_eq_true, ih (by omega), List.mem_append, List.mem_singleton, beq_iff_eq]
    have : zs.getD n 0 = zs[n] := by simp [show n < zs.length by omega]
    rw [this]
    exact or_congr Iff.rfl ⟨fun h => h.symm, fun h => h.symm⟩
theorem hasI_all (zs : List Int) (x : Int) {n : Nat} (hn : zs.length = n) : hasI (fun i => zs.getD i 0) x n = true ↔ x ∈ zs := by
  rw [hasI_mem zs x n (by omega), List.take_of_length_le (by omega)]
theorem getD_mem (zs : List Int) {i : Nat} (hi : i < zs.length) : zs.getD i 0 ∈ zs := by simp [hi]

set_option maxHeartbeats 800000 in
theorem fnEndedConns_walk (ao : Option Addr) (n cap : Nat) (c : Nat → Int) (w : World) (h : Code8 w ao n cap c) : Calls Try.prog 15 #[.slice ao n cap] w (SaysTrue w) := by
  have hcap := code_len h
  by_cases hn : 1048576 < n
  · go_enter Try.func15, Try.ntmps15
    go_wp2
    go_ret
    exact ⟨rfl, Below.refl _ _⟩
  · go_enter Try.func15, Try.ntmps15
    go_wp2_with fail
    refine (drawEndedConns_calls ao n cap c w h).mono ?_
    rintro e w1 ⟨L, m, a, cp, now, life, rest, rfl, hm, hx, hy, hz, R1, B1⟩
    have D1 := Below.refl w1.heap.size w1
    have hml := R1.len
    obtain ⟨zs, hzs⟩ : ∃ zs, endedConns L m now life rest = zs := ⟨_, rfl⟩
    obtain ⟨N, hN⟩ : ∃ N, zs.length = N := ⟨_, rfl⟩
    have hNm : N ≤ m := by have := endedN_le L m now life rest; rw [endedN, hzs, hN] at this; exact this
    have HZ := Lib.hid hzs
    have HN := Lib.hid hN
    clear hzs hN
    go_wp2_with fail
    refine (implEnded_v HZ.out HN.out R1).mono ?_
    rintro e w2 ⟨ag, cg, rfl, RG, hb2⟩
    have D2 := D1.trans (hb2.mono D1.size)
    go_wp2_with fail
    refine (specEnded_v HZ.out HN.out (R1.below D2)).mono ?_
    rintro e w3 ⟨sa, cs, rfl, RS3, hb3⟩
    have D3 := D2.trans (hb3.mono D2.size)
    go_wp2_with fail
    refine (equal_at (RG.below hb3) RS3).mono ?_
    rintro e w4 ⟨rfl, hb4⟩
    have D4 := D3.trans (hb4.mono D3.size)
    rcases Nat.eq_zero_or_pos N with h0 | h0
    · subst h0
      go_wp2_with fail
      refine (specEnded_v HZ.out HN.out (R1.below D4)).mono ?_
      rintro e w5 ⟨sa5, cs5, rfl, RS5, hb5⟩
      have D5 := D4.trans (hb5.mono D4.size)
      go_wp2_with fail
      refine (equal_at (((RG.below hb3).below hb4).below hb5) RS5).mono ?_
      rintro e w6 ⟨rfl, hb6⟩
      have D6 := D5.trans (hb6.mono D5.size)
      go_wp2
      go_ret
      exact ⟨rfl, B1.trans (D6.mono B1.size)⟩
    · have h0' : ((N : Int) == 0) = false := by simp; omega
      have hargs : argsA L m life rest = true ∧ 0 ≤ now ∧ now ≤ 1000 := by
        cases hc : (vA L m && inB 0 1000 now && inB 1 1000 life && inB 1 1000 rest)
        · have := HN.out
          rw [← HZ.out, ended_no hc] at this
          simp at this; omega
        · simp only [Bool.and_eq_true] at hc
          have := inB_yes hc.1.1.2
          exact ⟨by simp [argsA, hc.1.1.1, hc.1.2, hc.2], this.1, this.2⟩
      obtain ⟨hargs, hnw0, hnw1⟩ := hargs
      obtain ⟨hva, hl1, hl2, hr1, hr2⟩ := argsA_yes hargs
      have hm6 := (vA_facts hva).1
      have HV := Lib.hid (vA_facts hva).2
      have HM := Lib.hid (fun j (hj : j < m) => show hasI (fun i => zs.getD i 0) (j : Int) N = decide (endA (L j) j life rest ≤ now) from by
        rw [Bool.eq_iff_iff, hasI_all zs _ HN.out, decide_eq_true_eq, ← HZ.out, endedConns_good hargs hnw0 hnw1, endedL_mem]
        constructor
        · rintro ⟨k, _, h2, h3⟩
          obtain rfl : j = k := by omega
          exact h3
        · intro h3; exact ⟨j, hj, rfl, h3⟩)
      have RG4 := (RG.below hb3).below hb4
      have RR4 := R1.below D4
      clear hargs hva
      go_wp2
      go_loopw [8] (fun i wr => ∃ j : Nat, j ≤ m ∧ i = .int .i64 j ∧ Below w4.heap.size w4 wr) (fun i _ => m - (intOf i).toNat)
      case atStart => exact ⟨0, Nat.zero_le _, rfl, Below.refl _ _⟩
      case round =>
        obtain ⟨j, hj, rfl, hB⟩ := hrel
        by_cases hlt : j < m
        · obtain ⟨b, off, rfl, hb, hc⟩ := RR4.pos (by omega)
          have c0 := (hB.cell (p := ⟨b, off + j * 2, none⟩) hb).trans (hc j hlt).1
          have c1 := (hB.cell (p := ⟨b, off + j * 2 + 1, none⟩) hb).trans (hc j hlt).2
          have i0 : (j : Int) < (m : Int) := by omega
          have hv := HV.out j hlt
          have hlf := lifeOf_facts (c := j) (life := life) (by omega) hl1 hl2
          have hw1 : IntKind.i64.wrap (now - (L j).born) = now - (L j).born := IntWalk.i64_in _ (by omega)
          have hw2 : IntKind.i64.wrap (now - (L j).used) = now - (L j).used := IntWalk.i64_in _ (by omega)
          have hE := show endA (L j) j life rest = min ((L j).born + lifeOf j life) ((L j).used + rest) from rfl
          have hI := HM.out j hlt
          have RGr : ∀ d, RdI (wr.drewN d) ag N cg (fun i => zs.getD i 0) := fun d => RG4.below (below_drewN hB d)
          have HRG := Lib.hid RGr
          clear hc RGr
          rcases chain2 (!decide (lifeOf j life ≤ now - (L j).born)) (!decide (rest ≤ now - (L j).used)) with g1 | ⟨g1, g2⟩ | ⟨g1, g2⟩
          · have d1 : decide (lifeOf j life ≤ now - (L j).born) = true := by simpa using g1
            have hI' : hasI (fun i => zs.getD i 0) (j : Int) N = true := by rw [hI]; simp at d1 ⊢; omega
            have HI := Lib.hid hI'
            clear hI hI' hE g1
            go_wp2
            go_quiet ((first | (go_at_call 36; exact quiet_left (HI.out ▸ isIn_calls _ _ _ _ _ _ (HRG.out _))) | (go_at_call 37; exact quiet_left (implLifeOf_calls j life _ (by omega) hl1 hl2))))
            go_wp2
            go_roundw
            case rel => exact ⟨j + 1, by omega, by go_num, below_drewN hB _⟩
            case measure => simp [intOf]; omega
          · have d1 : decide (lifeOf j life ≤ now - (L j).born) = false := by simpa using g1
            have d2 : decide (rest ≤ now - (L j).used) = true := by simpa using g2
            have hI' : hasI (fun i => zs.getD i 0) (j : Int) N = true := by rw [hI]; simp at d2 ⊢; omega
            have HI := Lib.hid hI'
            clear hI hI' hE g1 g2
            go_wp2
            go_quiet ((first | (go_at_call 36; exact quiet_left (HI.out ▸ isIn_calls _ _ _ _ _ _ (HRG.out _))) | (go_at_call 37; exact quiet_left (implLifeOf_calls j life _ (by omega) hl1 hl2))))
            go_wp2
            go_roundw
            case rel => exact ⟨j + 1, by omega, by go_num, below_drewN hB _⟩
            case measure => simp [intOf]; omega
          · have d1 : decide (lifeOf j life ≤ now - (L j).born) = false := by simpa using g1
            have d2 : decide (rest ≤ now - (L j).used) = false := by simpa using g2
            have hI' : hasI (fun i => zs.getD i 0) (j : Int) N = false := by rw [hI]; simp at d1 d2 ⊢; omega
            have HI := Lib.hid hI'
            clear hI hI' hE g1 g2
            go_wp2
            go_quiet ((first | (go_at_call 36; exact quiet_left (HI.out ▸ isIn_calls _ _ _ _ _ _ (HRG.out _))) | (go_at_call 37; exact quiet_left (implLifeOf_calls j life _ (by omega) hl1 hl2))))
            go_wp2
            go_roundw
            case rel => exact ⟨j + 1, by omega, by go_num, below_drewN hB _⟩
            case measure => simp [intOf]; omega
        · obtain rfl : j = m := by omega
          go_wp2
          go_ret
          exact ⟨ret_bool (by first | (simp; done) | (simp; omega)), B1.trans ((D4.trans (hB.mono D4.size)).mono B1.size)⟩
end Go.Proofs.Ytmkpdcikpjpeaaa
