/- validLeases of the reference; ownerAt. -/
import Derived.Test.YthbemokpdcipaaaLease
import Derived.Test.YthbemokpdcipaaaInts
import Derived.Laws.AppendOwnNone
import Derived.WalkSpells
import Derived.Deep.Onto
namespace Go.Proofs.Ythbemokpdcipaaa
open Go.ChangeShapes Go.WideShapes Go.ChangeAt Go.RowKit
set_option linter.unusedVariables false

theorem anyC_noStep {L : Nat → Lz} {x : Lz} {j : Nat} (h : anyC L x j = false) (h2 : clashB (L j) x = false) : anyC L x (j + 1) = false := by simp [anyC, h, h2]
set_option maxHeartbeats 800000 in
theorem specvalidLeases_calls (ao : Option Addr) (n cap : Nat) (L : Nat → Lz) (w : World) (h : RdL w ao n cap L) :
    Calls Try.prog 43 #[.slice ao n cap] w fun e w' => e = .returned (.bool (vL L n)) ∧ Below w.heap.size w w' := by
  have hlen := h.len
  go_enter Try.func43, Try.ntmps43
  go_wp2
  go_loopw [3] (fun i wr => ∃ k : Nat, k ≤ n ∧ i = .int .i64 k ∧ okL L k = true ∧ Below w.heap.size w wr) (fun i _ => n - (intOf i).toNat)
  case atStart => exact ⟨0, Nat.zero_le _, rfl, rfl, Below.refl _ _⟩
  case round =>
    obtain ⟨k, hk, rfl, hok, hB⟩ := hrel
    have HK := Lib.hid hok
    clear hok
    by_cases hlt : k < n
    · obtain ⟨b, off, rfl, hb, hc⟩ := h.pos (by omega)
      obtain ⟨q0, q1, q2, q3⟩ := hc k hlt
      have c0 := (hB.cell (p := ⟨b, off + k * 4, none⟩) hb).trans q0
      have c1 := (hB.cell (p := ⟨b, off + k * 4 + 1, none⟩) hb).trans q1
      have c2 := (hB.cell (p := ⟨b, off + k * 4 + 2, none⟩) hb).trans q2
      have c3 := (hB.cell (p := ⟨b, off + k * 4 + 3, none⟩) hb).trans q3
      have i0 : (k : Int) < (n : Int) := by omega
      have V := specvalidLease_calls (L k) wr
      cases h1 : okL1 (L k)
      · have HN := Lib.hid (vL_no hlt (show okL L (k + 1) = false by simp [okL, h1]))
        rw [h1] at V
        clear h1 hc
        go_wp2_with (go_at_call 68; refine (V).mono ?_; rintro e w' ⟨rfl, hb1⟩)
        go_ret
        exact ⟨ret_bool HN.out.symm, hB.trans (hb1.mono hB.size)⟩
      · rw [h1] at V
        have H1 := Lib.hid h1
        have HC := Lib.hid hc
        clear h1 hc
        go_wp2_with (go_at_call 68; refine (V).mono ?_; rintro e w' ⟨rfl, hb1⟩)
        have hB1 : Below w.heap.size w w' := hB.trans (hb1.mono hB.size)
        clear c0 c1 c2 c3 hb1 V
        go_loopw [4] (fun i wr => ∃ j : Nat, j ≤ k ∧ i = .int .i64 j ∧ anyC L (L k) j = false ∧ Below w.heap.size w wr) (fun i _ => k - (intOf i).toNat)
        case atStart => exact ⟨0, Nat.zero_le _, rfl, rfl, hB1⟩
        case round =>
          obtain ⟨j, hj, rfl, hno, hB2⟩ := hrel
          have HNO := Lib.hid hno
          clear hno
          by_cases hjk : j < k
          · obtain ⟨r0, r1, r2, r3⟩ := HC.out j (by omega)
            have c0 := (hB2.cell (p := ⟨b, off + k * 4, none⟩) hb).trans q0
            have c1 := (hB2.cell (p := ⟨b, off + k * 4 + 1, none⟩) hb).trans q1
            have c2 := (hB2.cell (p := ⟨b, off + k * 4 + 2, none⟩) hb).trans q2
            have c3 := (hB2.cell (p := ⟨b, off + k * 4 + 3, none⟩) hb).trans q3
            have d0 := (hB2.cell (p := ⟨b, off + j * 4, none⟩) hb).trans r0
            have d1 := (hB2.cell (p := ⟨b, off + j * 4 + 1, none⟩) hb).trans r1
            have d2 := (hB2.cell (p := ⟨b, off + j * 4 + 2, none⟩) hb).trans r2
            have d3 := (hB2.cell (p := ⟨b, off + j * 4 + 3, none⟩) hb).trans r3
            have i1 : (j : Int) < (k : Int) := by omega
            have i2 : (j : Int) < (n : Int) := by omega
            have hz := hB2.size
            by_cases he : (L j).conn = (L k).conn
            · have he' : ((L j).conn == (L k).conn) = true := by simp [he]
              have HE := Lib.hid (show clashB (L j) (L k) = meetB (L j) (L k).frm (L k).til by simp [clashB, he])
              have M := fun w => specmeets_calls (L j) (L k) w
              cases hm : meetB (L j) (L k).frm (L k).til
              · rw [hm] at M HE
                have HN := Lib.hid (anyC_noStep HNO.out HE.out)
                clear hm he
                go_wp2
                go_region_held3 (fun w' => w'.cell? ⟨b, off + j * 4, none⟩ = some (.int .i64 (L j).conn) ∧ w'.cell? ⟨b, off + j * 4 + 1, none⟩ = some (.int .i64 (L j).owner) ∧ w'.cell? ⟨b, off + j * 4 + 2, none⟩ = some (.int .i64 (L j).frm) ∧ w'.cell? ⟨b, off + j * 4 + 3, none⟩ = some (.int .i64 (L j).til) ∧ w'.cell? ⟨b, off + k * 4, none⟩ = some (.int .i64 (L k).conn) ∧ w'.cell? ⟨b, off + k * 4 + 1, none⟩ = some (.int .i64 (L k).owner) ∧ w'.cell? ⟨b, off + k * 4 + 2, none⟩ = some (.int .i64 (L k).frm) ∧ w'.cell? ⟨b, off + k * 4 + 3, none⟩ = some (.int .i64 (L k).til)) (go_keep)
                  (first | (go_at_call 69; refine (M _).mono ?_; rintro e w2 ⟨rfl, hb2⟩; have hB3 : Below w.heap.size w w2 := (below_drew hB2).trans (hb2.mono hz); have s0 := (hB3.cell (p := ⟨b, off + j * 4, none⟩) hb).trans r0; have s1 := (hB3.cell (p := ⟨b, off + j * 4 + 1, none⟩) hb).trans r1; have s2 := (hB3.cell (p := ⟨b, off + j * 4 + 2, none⟩) hb).trans r2; have s3 := (hB3.cell (p := ⟨b, off + j * 4 + 3, none⟩) hb).trans r3; have t0 := (hB3.cell (p := ⟨b, off + k * 4, none⟩) hb).trans q0; have t1 := (hB3.cell (p := ⟨b, off + k * 4 + 1, none⟩) hb).trans q1; have t2 := (hB3.cell (p := ⟨b, off + k * 4 + 2, none⟩) hb).trans q2; have t3 := (hB3.cell (p := ⟨b, off + k * 4 + 3, none⟩) hb).trans q3))
                go_wp2
                go_roundw
                case rel => exact ⟨j + 1, by omega, by go_num, HN.out, hB3⟩
                case measure => simp [intOf]; omega
              · rw [hm] at M HE
                have HN := Lib.hid (vL_no hlt (show okL L (k + 1) = false by simp [okL, anyC_yes hjk HE.out]))
                clear hm he
                go_wp2
                go_region_held3 (fun w' => w'.cell? ⟨b, off + j * 4, none⟩ = some (.int .i64 (L j).conn) ∧ w'.cell? ⟨b, off + j * 4 + 1, none⟩ = some (.int .i64 (L j).owner) ∧ w'.cell? ⟨b, off + j * 4 + 2, none⟩ = some (.int .i64 (L j).frm) ∧ w'.cell? ⟨b, off + j * 4 + 3, none⟩ = some (.int .i64 (L j).til) ∧ w'.cell? ⟨b, off + k * 4, none⟩ = some (.int .i64 (L k).conn) ∧ w'.cell? ⟨b, off + k * 4 + 1, none⟩ = some (.int .i64 (L k).owner) ∧ w'.cell? ⟨b, off + k * 4 + 2, none⟩ = some (.int .i64 (L k).frm) ∧ w'.cell? ⟨b, off + k * 4 + 3, none⟩ = some (.int .i64 (L k).til)) (go_keep)
                  (first | (go_at_call 69; refine (M _).mono ?_; rintro e w2 ⟨rfl, hb2⟩; have hB3 : Below w.heap.size w w2 := (below_drew hB2).trans (hb2.mono hz); have s0 := (hB3.cell (p := ⟨b, off + j * 4, none⟩) hb).trans r0; have s1 := (hB3.cell (p := ⟨b, off + j * 4 + 1, none⟩) hb).trans r1; have s2 := (hB3.cell (p := ⟨b, off + j * 4 + 2, none⟩) hb).trans r2; have s3 := (hB3.cell (p := ⟨b, off + j * 4 + 3, none⟩) hb).trans r3; have t0 := (hB3.cell (p := ⟨b, off + k * 4, none⟩) hb).trans q0; have t1 := (hB3.cell (p := ⟨b, off + k * 4 + 1, none⟩) hb).trans q1; have t2 := (hB3.cell (p := ⟨b, off + k * 4 + 2, none⟩) hb).trans q2; have t3 := (hB3.cell (p := ⟨b, off + k * 4 + 3, none⟩) hb).trans q3))
                go_wp2
                go_ret
                exact ⟨ret_bool HN.out.symm, hB3⟩
            · have he' : ((L j).conn == (L k).conn) = false := by simp [he]
              have HN := Lib.hid (anyC_noStep HNO.out (show clashB (L j) (L k) = false by simp [clashB, he]))
              clear he
              go_wp2
              go_quiet (fail)
              go_wp2
              go_roundw
              case rel => exact ⟨j + 1, by omega, by go_num, HN.out, below_drewN hB2 _⟩
              case measure => simp [intOf]; omega
          · obtain rfl : j = k := by omega
            have HN := Lib.hid (show okL L (j + 1) = true by simp [okL, HK.out, H1.out, HNO.out])
            go_wp2
            go_roundw
            case rel => exact ⟨j + 1, by omega, by go_num, HN.out, hB2⟩
            case measure => simp [intOf]; omega
    · obtain rfl : k = n := by omega
      have HE := Lib.hid (show vL L k = decide (k ≤ 12) by simp [vL, HK.out])
      go_wp2
      go_ret
      exact ⟨ret_bool (by rw [HE.out]; simp; omega), hB⟩

theorem hasC_yes {L : Nat → Lz} {c t : Int} {n k : Nat} (hk : k < n) (h1 : (L k).conn = c) (h2 : holdsB (L k) t = true) : hasC L c t n = true := hasC_iff.2 ⟨k, hk, h1, h2⟩
theorem hasC_step {L : Nat → Lz} {c t : Int} {k : Nat} (h : hasC L c t k = false) (h2 : (decide ((L k).conn = c) && holdsB (L k) t) = false) : hasC L c t (k + 1) = false := by simp only [hasC, h, h2]; rfl
set_option maxHeartbeats 800000 in
theorem ownerAt_calls (ao : Option Addr) (n cap : Nat) (L : Nat → Lz) (c t : Int) (w : World) (h : RdL w ao n cap L) (hv : vL L n = true) :
    Calls Try.prog 52 #[.slice ao n cap, .int .i64 c, .int .i64 t] w (Idx (hasC L c t n) w) := by
  have hlen := h.len
  have HV := Lib.hid (fun k hk => vL_at hv k hk)
  clear hv
  go_enter Try.func52, Try.ntmps52
  go_wp2
  go_loopw [11] (fun i wr => ∃ k : Nat, k ≤ n ∧ i = .int .i64 k ∧ hasC L c t k = false ∧ Below w.heap.size w wr) (fun i _ => n - (intOf i).toNat)
  case atStart => exact ⟨0, Nat.zero_le _, rfl, rfl, Below.refl _ _⟩
  case round =>
    obtain ⟨k, hk, rfl, hok, hB⟩ := hrel
    have HK := Lib.hid hok
    clear hok
    by_cases hlt : k < n
    · obtain ⟨b, off, rfl, hb, hc⟩ := h.pos (by omega)
      obtain ⟨q0, q1, q2, q3⟩ := hc k hlt
      have c0 := (hB.cell (p := ⟨b, off + k * 4, none⟩) hb).trans q0
      have c1 := (hB.cell (p := ⟨b, off + k * 4 + 1, none⟩) hb).trans q1
      have c2 := (hB.cell (p := ⟨b, off + k * 4 + 2, none⟩) hb).trans q2
      have c3 := (hB.cell (p := ⟨b, off + k * 4 + 3, none⟩) hb).trans q3
      have i0 : (k : Int) < (n : Int) := by omega
      have hz := hB.size
      clear hc q0 q1 q2 q3
      have hBA : Below w.heap.size w (wr.alloc (.cells #[.int .i64 ((L k)).conn, .int .i64 ((L k)).owner, .int .i64 ((L k)).frm, .int .i64 ((L k)).til] 29)) := hB.alloc hz _
      by_cases he : (L k).conn = c
      · have he' : ((L k).conn == c) = true := by simp [he]
        rcases chain2 (decide ((L k).frm ≤ t)) (decide (t < (L k).til)) with h1 | ⟨h1, h2⟩ | ⟨h1, h2⟩
        case inr.inr =>
          have HY := Lib.hid (hasC_yes hlt he (show holdsB (L k) t = true by simp only [holdsB, h1, h2]; rfl))
          have HO := Lib.hid (HV.out k hlt)
          clear he
          go_wp2
          go_ret
          exact ⟨(L k).owner, rfl, by rw [HY.out]; simp; exact HO.out.2.2.1, hBA⟩
        all_goals
          have HN := Lib.hid (hasC_step (L := L) (c := c) HK.out (show (decide ((L k).conn = c) && holdsB (L k) t) = false by simp only [holdsB, *]; simp))
          clear he
          go_wp2
          go_roundw
          case rel => exact ⟨k + 1, by omega, by go_num, HN.out, hBA⟩
          case measure => simp [intOf]; omega
      · have he' : ((L k).conn == c) = false := by simp [he]
        have HN := Lib.hid (hasC_step (L := L) (c := c) (t := t) HK.out (by simp [he]))
        clear he
        go_wp2
        go_roundw
        case rel => exact ⟨k + 1, by omega, by go_num, HN.out, hBA⟩
        case measure => simp [intOf]; omega
    · obtain rfl : k = n := by omega
      go_wp2
      go_ret
      exact ⟨-1, rfl, by rw [HK.out]; rfl, hB⟩
end Go.Proofs.Ythbemokpdcipaaa
