/- PackLeases of the program. -/
import Derived.Test.YthbemokpdcipaaaPack6
namespace Go.Proofs.Ythbemokpdcipaaa
open Go.ChangeShapes Go.WideShapes Go.ChangeAt Go.RowKit
set_option linter.unusedVariables false

set_option maxHeartbeats 3200000 in
theorem implPackLeases_own (ao : Option Addr) (n cap : Nat) (L : Nat → Lz) (w : World) (h : RdL w ao n cap L) :
    Calls Try.prog 14 #[.slice ao n cap] w (Own2L w (packN L n) (packL L n) (vL L n)) := by
  have hlen := h.len
  have hao : ∀ b off x, ao = some ⟨b, off, x⟩ → 0 < n → b < w.heap.size := fun b off x e h0 => by
    obtain ⟨b', off', e', hb, _⟩ := h.pos h0
    rw [e] at e'; injection e' with e'; injection e' with e1; omega
  cases hv : vL L n
  · have e1 : packN L n = 0 := by simp [packN, hv]
    rw [e1]
    have B1 : Below w.heap.size w (w.alloc (.cells #[.slice ao n cap] 23)) := (Below.refl _ _).alloc (Nat.le_refl _) _
    have V := implValidLeases_calls ao n cap L _ (h.below B1)
    rw [hv] at V
    clear e1 hv h hao
    go_enter Try.func14, Try.ntmps14
    go_wp2_with (go_at_call 32; refine (V).mono ?_; rintro e w' ⟨rfl, hb⟩)
    go_returns
    exact ⟨none, 0, 0, rfl, Nat.le_refl _, by unfold maxLen; omega, fun _ => rfl, World.ownsRow_nil _ _ _ _, B1.trans (hb.mono B1.size)⟩
  · have e1 : packN L n = n := by simp [packN, hv]
    rw [e1]
    have hn12 := (vL_facts hv).2
    have HV := Lib.hid hv
    have HAO := Lib.hid hao
    have B1 : Below w.heap.size w (w.alloc (.cells #[.slice ao n cap] 23)) := (Below.refl _ _).alloc (Nat.le_refl _) _
    have V := implValidLeases_calls ao n cap L _ (h.below B1)
    rw [hv] at V
    clear e1 hv hao
    go_enter Try.func14, Try.ntmps14
    go_wp2_with fail
    refine V.mono ?_
    rintro e w1 ⟨rfl, hb⟩
    have hh1 := (hb.block w.heap.size (by simp)).trans (heap_alloc_new w (.cells #[.slice ao n cap] 23))
    have hc1 : w1.cell? ⟨w.heap.size, 0, none⟩ = some (.slice ao n cap) := cell_of_one hh1
    have B2 := B1.trans (hb.mono B1.size)
    have C := implcloneL_calls ao n cap L w1 (h.below B2) (by omega)
    have HH := Lib.hid hh1
    clear hh1
    go_wp2_with fail
    refine C.mono ?_
    rintro e w2 ⟨a, c, rfl, O2, hb2⟩
    have hgl := lt_of_block HH.out
    have hc2 := (hb2.cell (p := ⟨w.heap.size, 0, none⟩) hgl).trans hc1
    have hs2 := hb2.size
    have B3 : Below w2.heap.size w2 ((w2.alloc (.cells #[.slice a n n] 23)).alloc (.cells #[.slice none 0 0] 40)) := ((Below.refl _ _).alloc (Nat.le_refl _) _).alloc (by simp) _
    have P3 : PackW w w.heap.size w2.heap.size ao n cap a c L (.slice none 0 0) 0 [] ((w2.alloc (.cells #[.slice a n n] 23)).alloc (.cells #[.slice none 0 0] 40)) := by
      refine ⟨(B2.trans (hb2.mono B2.size)).trans (B3.mono (by omega)), ?_, ?_, ?_, ?_, fun g hg => ?_, World.ownsRow_nil _ _ _ _, by omega⟩
      · exact (B3.block _ (by omega)).trans ((hb2.block _ hgl).trans HH.out)
      · exact heap_past (heap_alloc_new _ _)
      · exact heap_new (by simp)
      · exact own_below (World.ownsRow.mono O2 (by omega)) B3
      · have := O2.lt g hg; omega
    have hc3 := (B3.cell (p := ⟨w.heap.size, 0, none⟩) (by simp; omega)).trans hc2
    have hca := own_caps O2
    have HNA := Lib.hid (show a = none → n = 0 from fun e => by subst e; exact (own_none O2).1)
    have HP3 := Lib.hid P3
    clear hc1 V C P3 O2 hc2
    go_wp2
    generalize hgo : w2.heap.size = go at *
    generalize hglx : w.heap.size = gl at *
    clear B1 hb B2 hb2 B3 hs2 HH hgl hc3
    generalize (w2.alloc (.cells #[.slice a n n] 23)).alloc (.cells #[.slice none 0 0] 40) = w3 at *
    have HGO := Lib.hid hgo
    have HGL := Lib.hid hglx
    clear hgo hglx
    go_loopw [18] (fun i wr => ∃ k : Nat, k ≤ n ∧ i = .int .i64 k ∧ ∃ v, PackW w gl go ao n cap a c L v k (List.range k) wr) (fun i _ => n - (intOf i).toNat)
    case atStart => exact ⟨0, Nat.zero_le _, rfl, _, HP3.out⟩
    case round =>
      obtain ⟨k, hk, rfl, v, hP⟩ := hrel
      obtain ⟨b, cb, rfl⟩ := own_slice hP.ints
      have hcs := hP.cells
      by_cases hlt : k < n
      · have i0 : (k : Int) < (n : Int) := by omega
        have cr := hcs.2.2
        have HP := Lib.hid hP
        have hgs := lt_of_block hP.r
        have O := Lib.hid hP.ints
        clear hcs hP
        go_wp2_with (at_builtin; refine app1 Try.underlying40 infoInt rfl (by decide) (by decide) O.out (by omega) (by omega) rfl (by simp [Value.oneCell']) _ _ rfl rfl rfl rfl ?_)
        intro v' w4 O4 G4
        have O5 : w4.ownsRow (go + 2) 3 1 v' (k + 1) (natV (List.range (k + 1))) := by rw [← natV_snoc]; exact O4
        have P5 := Lib.hid (HP.out.put O5 G4)
        obtain ⟨b5, c5, rfl⟩ := own_slice O5
        have hr4 := (HP.out.grown G4).2.2.2.1
        have c4 := cell_of_one hr4
        have f4 := free_of_one hr4
        clear O4 G4 O5 hr4
        go_wp2
        go_roundw
        case rel => exact ⟨k + 1, by omega, by go_num, _, P5.out⟩
        case measure => simp [intOf]; omega
      · obtain rfl : k = n := by omega
        have S := sort_calls gl ao k cap L wr (go + 2) b cb hcs.1 (by rw [← HGL.out] at hP; exact h.below hP.b) hn12 hP.ints (by have := hP.lt; omega) (fun e0 b' off x e => by have := hP.lt; have := HAO.out b' off x e e0; have := HGL.out; omega)
        have cr := hcs.2.2
        have HP := Lib.hid hP
        clear hcs hP
        go_wp2_with fail
        refine S.mono ?_
        rintro e w4 ⟨rfl, O4, G4⟩
        have P4 := HP.out.sorted O4 G4
        have cr4 := P4.cells.2.2
        have HP4 := Lib.hid P4
        clear HP O4 G4 P4
        go_wp2
        go_loopw [31] (fun i wr => ∃ d : Nat, d ≤ k ∧ i = .int .i64 d ∧ PackW w gl go ao k cap a c (stg L k d) (.slice b k cb) k (ordL L k) wr) (fun i _ => k - (intOf i).toNat)
        case atStart => exact ⟨0, Nat.zero_le _, rfl, HP4.out⟩
        case round =>
          obtain ⟨d, hd, rfl, hP⟩ := hrel
          have hcs := hP.cells
          by_cases hdn : d < k
          · have i0 : (d : Int) < (k : Int) := by omega
            obtain ⟨gb, cb', hf⟩ := own_form hP.ints (by omega)
            injection hf with e1 e2 e3
            subst e1 e3
            have hpf := pack_facts HV.out hdn
            have hpL := ordAt_lt (L := L) hdn
            have hcd : wr.cell? ⟨gb, d, none⟩ = some (.int .i64 ((ordAt L k d : Nat) : Int)) := by
              rw [hP.ints.cellAt d (by omega)]
              exact natV_get (by have : d < (ordL L k).length := by rw [ordL_len]; exact hdn
                                 simp [ordAt, this])
            have HQ := Lib.hid (fun x c j => usedB_tak L k d x c j)
            have HTK := Lib.hid (fun (c : Int) => takB_congr (L := L) (M := L) (n := k) (fun _ _ => rfl) (fun _ _ => ⟨rfl, rfl⟩) (C := packC L k d) (D := packC L k d) (x := stg L k d (ordAt L k d)) (y := L (ordAt L k d)) ⟨rfl, rfl⟩ c d (by omega) (fun _ _ => rfl))
            have HST := Lib.hid (stg_step L k d)
            have HOL := Lib.hid (fun i (hi : i < d) => ordAt_lt (L := L) (n := k) (j := i) (by omega))
            have HP := Lib.hid hP
            clear hcs hP
            generalize hq : ordAt L k d = q at *
            generalize freeC L k d (packC L k d) = F at *
            have HF := Lib.hid hpf.2
            have hF5 := hpf.1
            clear hpf hq
            have B5 : Below wr.heap.size wr ((wr.alloc (.cells #[.int .i64 (d : Nat)] 3)).alloc (.cells #[.int .i64 (q : Nat)] 3)) := ((Below.refl _ _).alloc (Nat.le_refl _) _).alloc (by simp) _
            have P5 := Lib.hid (HP.out.below B5)
            have H7 := Lib.hid (cell_of_one (heap_past (o' := .cells #[.int .i64 (q : Nat)] 3) (heap_alloc_new wr (.cells #[.int .i64 (d : Nat)] 3))))
            have H8 := Lib.hid (cell_of_one (heap_new (W := wr.alloc (.cells #[.int .i64 (d : Nat)] 3)) (o := .cells #[.int .i64 (q : Nat)] 3) (q := wr.heap.size + 1) (by simp)))
            clear B5
            go_wp2
            generalize (wr.alloc (.cells #[.int .i64 (d : Nat)] 3)).alloc (.cells #[.int .i64 (q : Nat)] 3) = w5 at *
            clear HP hcd HP3 HP4
            generalize wr.heap.size = g7 at *
            clear wr
            go_loopw [10] (fun i wr => ∃ cc : Nat, cc ≤ F ∧ i = .int .i64 cc ∧ Below w5.heap.size w5 wr) (fun i _ => F - (intOf i).toNat)
            case atStart => exact ⟨0, Nat.zero_le _, rfl, Below.refl _ _⟩
            case round =>
              obtain ⟨cc, hcc, rfl, hB⟩ := hrel
              have P6 := P5.out.below hB
              have c7 := (hB.cell (p := ⟨g7, 0, none⟩) (World.block_lt_of_cell? w5 _ H7.out)).trans H7.out
              have c8 := (hB.cell (p := ⟨g7 + 1, 0, none⟩) (World.block_lt_of_cell? w5 _ H8.out)).trans H8.out
              have hca6 := own_caps P6.rows
              have U := taken_calls (go + 1) g7 go (g7 + 1) a k k (stg L k d) (cc : Int) q (some ⟨gb, 0, none⟩) d cb (ordAt L k) wr (Rd.recap (RdL_of_own P6.rows) (Nat.le_refl _) (by omega) HNA.out) P6.cells.2.1 c8 P6.cells.2.2 c7 hpL hd (RdI_nat (ordL_len L k) P6.ints) HOL.out
              rw [HQ.out, HTK.out] at U
              have HP := Lib.hid P6
              clear P6
              by_cases hlt : cc < F
              · rw [HF.out.2 cc hlt] at U
                go_wp2_with fail
                refine U.mono ?_
                rintro e w6 ⟨rfl, hb6⟩
                have B6 := hB.trans (hb6.mono hB.size)
                go_wp2
                go_roundw
                case rel => exact ⟨cc + 1, by omega, by go_num, B6⟩
                case measure => simp [intOf]; omega
              · obtain rfl : cc = F := by omega
                rw [HF.out.1] at U
                go_wp2_with fail
                refine U.mono ?_
                rintro e w6 ⟨rfl, hb6⟩
                have B6 := hB.trans (hb6.mono hB.size)
                have P7 := HP.out.below hb6
                have k8 := (B6.cell (p := ⟨g7 + 1, 0, none⟩) (World.block_lt_of_cell? w5 _ H8.out)).trans H8.out
                obtain ⟨ga, c2', hf⟩ := own_form P7.rows (by omega)
                injection hf with e1 e2 e3
                subst e1 e3
                obtain ⟨u0, hu0⟩ := own_some P7.rows (q * 4) (by omega)
                have hf0 := P7.rows.frozenAt (q * 4)
                have ko := P7.cells.2.1
                have P8 := P7.setOut (cc := (cc : Int)) hpL
                rw [HST.out] at P8
                have H9 := Lib.hid P8
                have i1 : (q : Int) < (k : Int) := by omega
                clear P7 P8 HP U
                go_wp2
                go_roundw
                case rel => exact ⟨d + 1, by omega, by go_num, H9.out⟩
                case measure => simp [intOf]; omega
          · obtain rfl : d = k := by omega
            have co := hcs.2.1
            have HP := Lib.hid hP
            clear hcs hP
            go_wp2
            go_returns
            have := HGL.out
            exact ⟨a, d, c, rfl, Nat.le_refl _, by unfold maxLen; omega, HNA.out, by rw [HGL.out]; exact HP.out.rows, by rw [HGL.out]; exact HP.out.b⟩
end Go.Proofs.Ythbemokpdcipaaa
