/- BreakerPath of the program. -/
import Derived.Test.YtcgnaokpdlbhbaaPathPlain
import Derived.Test.YtcgnaokpdlbhbaaBreakerLaws5
import Derived.Test.YtcgnaokpdlbhbaaBools
import Derived.Test.YtcgnaokpdlbhbaaToInts
import Derived.Test.YtcgnaokpdlbhbaaRowsOf
import Derived.Deep.RegionHeld3
import Derived.Deep.RegionWith
import Derived.Deep.DrawnRows
import Derived.Deep.Onto
import Derived.OneCell
namespace Go.Proofs.Ytcgnaokpdlbhbaa
open Go.ChangeShapes Go.WideShapes Go.ChangeAt Go.RowKit
set_option linter.unusedVariables false
attribute [local go_sem ↓] Go.wp_at_zero Go.wp_at_succ

/-- What BreakerPath answers: a list in new memory. -/
def PathR (w : World) (Z : List Int) (e : Ending) (w' : World) : Prop :=
  ∃ a c, e = .returned (.slice a Z.length c) ∧ w'.ownsRow w.heap.size 3 1 (.slice a Z.length c) Z.length (Z.map (Value.int .i64)) ∧ Below w.heap.size w w'
theorem PathR_nil {w w' : World} (hb : Below w.heap.size w w') : PathR w [] (.returned (.slice none 0 0)) w' := ⟨none, 0, rfl, World.ownsRow_nil _ _ _ _, hb⟩
theorem PathR_mk {w w' : World} {Z zs : List Int} {a : Option Addr} {n c g : Nat} (hZ : Z = zs) (hl : zs.length = n) (ho : w'.ownsRow g 3 1 (.slice a n c) n (zs.map (Value.int .i64))) (hg : w.heap.size ≤ g) (hb : Below w.heap.size w w') : PathR w Z (.returned (.slice a n c)) w' := by
  subst hZ hl
  exact ⟨a, c, rfl, World.ownsRow.mono ho hg, hb⟩
/-- The states after each of the calls. -/
def stS (b : Bk) (G : Nat → Bool) (T : Nat → Int) (i : Nat) : Int := (stB b G T (i + 1)).state
/-- What the loops keep: the breaker's variable g, the list. -/
structure PathW (w : World) (g : Nat) (x : Bk) (v : Value) (m : Nat) (zs : List Int) (wr : World) : Prop where
  b : Below g w wr
  x : wr.heap[g]? = some (.cells #[.int .i64 x.limit, .int .i64 x.rest, .int .i64 x.state, .int .i64 x.fails, .int .i64 x.since] 25 (0, 0))
  o : wr.ownsRow (g + 1) 3 1 v m (zs.map (Value.int .i64))
theorem PathW.below {w : World} {g : Nat} {x : Bk} {v : Value} {m : Nat} {zs : List Int} {wr w1 : World} (h : PathW w g x v m zs wr) (hb : Below wr.heap.size wr w1) : PathW w g x v m zs w1 :=
  ⟨h.b.trans (hb.mono (Nat.le_of_lt (Array.getElem?_eq_some_iff.1 h.x).1)), keepBel hb h.x, own_below h.o hb⟩
theorem PathW.set {w : World} {g : Nat} {x y : Bk} {v : Value} {m : Nat} {zs : List Int} {wr : World} (h : PathW w g x v m zs wr) :
    PathW w g y v m zs (((((wr.setCell ⟨g, 0, none⟩ (.int .i64 y.limit)).setCell ⟨g, 1, none⟩ (.int .i64 y.rest)).setCell ⟨g, 2, none⟩ (.int .i64 y.state)).setCell ⟨g, 3, none⟩ (.int .i64 y.fails)).setCell ⟨g, 4, none⟩ (.int .i64 y.since)) := by
  have hne : v.ownBlock ≠ some g := fun e => by have := h.o.lt _ e; omega
  refine ⟨((((h.b.setCell (Nat.le_refl _) _).setCell (Nat.le_refl _) _).setCell (Nat.le_refl _) _).setCell (Nat.le_refl _) _).setCell (Nat.le_refl _) _, set5_same h.x _ _ _ _ _, ?_⟩
  exact ownsRow_setCell_other (ownsRow_setCell_other (ownsRow_setCell_other (ownsRow_setCell_other (ownsRow_setCell_other h.o hne _) hne _) hne _) hne _) hne _
theorem PathW.drewN {w : World} {g : Nat} {x : Bk} {v : Value} {m : Nat} {zs : List Int} {wr : World} (h : PathW w g x v m zs wr) (k : Nat) : PathW w g x v m zs (wr.drewN k) := h.below (below_drewN (Below.refl _ _) k)

theorem PathW.put {w : World} {g h n j : Nat} {x : Bk} {F : Nat → Int} {wr : World} (hp : PathW w g x (.slice (some ⟨h, 0, none⟩) n n) n (copyI F n j) wr) {u : Int} (hc : ((copyI F n j).map (Value.int .i64)).set j (.int .i64 (F j)) = (copyI F n (j + 1)).map (Value.int .i64)) (hu : F j = u) :
    PathW w g x (.slice (some ⟨h, 0, none⟩) n n) n (copyI F n (j + 1)) (wr.setCell ⟨h, j, none⟩ (.int .i64 u)) := by
  subst hu
  have hh := (hp.o.lt h rfl).1
  have o := (hp.o.stored j (.int .i64 (F j))).1
  rw [hc] at o
  exact ⟨hp.b.setCell (show g ≤ h by omega) _, keepS hp.x (by omega) _, o⟩

theorem beginB_fails (x : Bk) (t : Int) : (beginB x t).fails = 0 ∨ (beginB x t).fails = x.fails := by
  unfold beginB turnB
  split
  · exact .inl rfl
  · exact .inr rfl
theorem okTo_no {s : Int} {T : Nat → Int} {n k : Nat} (hk : k < n) (h1 : inB (lastT s T k) 1000 (T k) = false) : okTo s T n = false := by
  cases h : okTo s T n
  · rfl
  · have := okTo_le h (k + 1) (by omega)
    simp only [okTo, h1, Bool.and_false] at this
    exact absurd this (by decide)
theorem path_no {b : Bk} {n m : Nat} {G : Nat → Bool} {T : Nat → Int} (h : okTo b.since T n = false) : pathB b n m G T = [] := pathB_bad (by simp [validP, h])
theorem stB_step (b : Bk) (G : Nat → Bool) (T : Nat → Int) (k : Nat) : stB b G T (k + 1) = stepB (stB b G T k) (G k) (T k) := rfl
theorem path_all {b : Bk} {n : Nat} {G : Nat → Bool} {T : Nat → Int} (hv : vB b = true) (hn : n ≤ 12) (ht : okTo b.since T n = true) : pathB b n n G T = (List.range n).map (stS b G T) :=
  pathB_good (by simp [validP, hv, hn, ht])

set_option maxHeartbeats 3200000 in
theorem implBreakerPath_own (b : Bk) (ag : Option Addr) (n cg : Nat) (G : Nat → Bool) (at' : Option Addr) (m ct : Nat) (T : Nat → Int) (w : World) (hG : RdB w ag n cg G) (hT : RdI w at' m ct T) :
    Calls Try.prog 36 #[.agg #[.int .i64 b.limit, .int .i64 b.rest, .int .i64 b.state, .int .i64 b.fails, .int .i64 b.since], .slice ag n cg, .slice at' m ct] w (PathR w (pathB b n m G T)) := by
  have hlen := hG.len
  have hlen2 := hT.len
  have V := implValidBreaker_calls b (w.alloc (.cells #[.int .i64 b.limit, .int .i64 b.rest, .int .i64 b.state, .int .i64 b.fails, .int .i64 b.since] 25))
  have B0 : Below w.heap.size w (w.alloc (.cells #[.int .i64 b.limit, .int .i64 b.rest, .int .i64 b.state, .int .i64 b.fails, .int .i64 b.since] 25)) := (Below.refl _ _).alloc (Nat.le_refl _) _
  cases hv : vB b
  · rw [pathB_bad (by simp [validP, hv])]
    rw [hv] at V
    clear hv
    go_enter Try.func36, Try.ntmps36
    go_wp2_with (go_at_call 21; refine (V).mono ?_; rintro e w' ⟨rfl, hb⟩)
    go_ret
    exact PathR_nil (B0.trans (hb.mono B0.size))
  · rw [hv] at V
    by_cases hn : 12 < n
    · rw [pathB_bad (by have : ¬ n ≤ 12 := by omega
                        simp [validP, this])]
      have hn' : (12 : Int) < (n : Int) := by omega
      clear hv
      go_enter Try.func36, Try.ntmps36
      go_wp2_with (go_at_call 21; refine (V).mono ?_; rintro e w' ⟨rfl, hb⟩)
      go_ret
      exact PathR_nil (B0.trans (hb.mono B0.size))
    · have hn' : ¬ (12 : Int) < (n : Int) := by omega
      by_cases hm : n = m
      · subst hm
        have hnn : ((n : Int) != (n : Int)) = false := by simp
        have HV := Lib.hid hv
        clear hv hlen2
        go_enter Try.func36, Try.ntmps36
        go_wp2_with fail
        refine V.mono ?_
        rintro e w1 ⟨rfl, hb⟩
        have B1 := B0.trans (hb.mono B0.size)
        have HX := Lib.hid (keepBel hb (heap_alloc_new w (.cells #[.int .i64 b.limit, .int .i64 b.rest, .int .i64 b.state, .int .i64 b.fails, .int .i64 b.since] 25)))
        obtain ⟨x0, x1, x2, x3, x4, _, _, _, _, _⟩ := blk5 HX.out
        have hg1 := (Array.getElem?_eq_some_iff.1 HX.out).1
        have HG := Lib.hid hG
        have HT := Lib.hid hT
        clear V B0 hb hG hT
        generalize hg : w.heap.size = g at *
        go_wp2
        go_loop [7, 32] (fun l i => ∃ k : Nat, k ≤ n ∧ i = .int .i64 k ∧ l = .int .i64 (lastT b.since T k) ∧ okTo b.since T k = true) (fun _ i => n - (intOf i).toNat)
        case atStart => exact ⟨0, Nat.zero_le _, rfl, rfl, rfl⟩
        case round =>
          obtain ⟨k, hk, rfl, rfl, hok⟩ := hrel
          have HOK := Lib.hid hok
          clear hok
          by_cases hlt : k < n
          · have i0 : (k : Int) < (n : Int) := by omega
            have hR := HT.out.below (hg ▸ B1)
            obtain ⟨bt, ot, rfl, hbt, hct⟩ := hR.pos (by omega)
            have ck := hct k hlt
            clear hct hR
            cases hin : inB (lastT b.since T k) 1000 (T k)
            · rw [path_no (okTo_no hlt hin)]
              have C := fun w => in_calls (T k) (lastT b.since T k) 1000 w
              rw [hin] at C
              clear hin
              subst hg
              go_wp2_with (go_at_call 45; refine (C _).mono ?_; rintro e w' ⟨rfl, rfl⟩)
              go_ret
              exact PathR_nil B1
            · have HN := Lib.hid (show okTo b.since T (k + 1) = true by simp only [okTo, HOK.out, hin]; rfl)
              have C := fun w => in_calls (T k) (lastT b.since T k) 1000 w
              rw [hin] at C
              clear hin
              go_wp2_with (go_at_call 45; refine (C _).mono ?_; rintro e w' ⟨rfl, rfl⟩)
              go_round
              case rel => exact ⟨k + 1, by omega, by go_num, rfl, HN.out⟩
              case measure => simp [intOf]; omega
          · obtain rfl : k = n := by omega
            obtain ⟨i0, hi, hz0, hz1, hz2⟩ := info_parts infoInt
            have HZ := Lib.hid (path_all (G := G) HV.out (by omega) HOK.out)
            go_wp2_with (at_make; refine wpList_make_full _ rfl _ _ 43 rfl (g + 1) 3 i0 (.int .i64 0) 1 Try.underlying43 hi hz0 hz1 _ _ _ _ k rfl rfl rfl rfl (by rw [hz2]; omega) (by unfold maxLen; omega) (by omega) ?_)
            intro w2 hown hgrow
            have hown1 : w2.ownsRow (g + 1) 3 1 (.slice (some ⟨w1.heap.size, 0, none⟩) k k) k ((copyI (stS b G T) k 0).map (Value.int .i64)) := by
              rw [copyI_zero]
              rw [← toList_madeCells_one]; exact hown
            have B2 : Below w1.heap.size w1 w2 := below_of_grown hgrow (Nat.le_refl _) (fun g hg => by simp at hg)
            have P2 : PathW w g (stB b G T 0) (.slice (some ⟨w1.heap.size, 0, none⟩) k k) k (copyI (stS b G T) k 0) w2 := ⟨B1.trans (B2.mono (by omega)), keepBel B2 HX.out, hown1⟩
            have HP2 := Lib.hid P2
            clear hown hgrow hi hz0 hz1 hz2 hown1 P2
            go_wp2
            generalize w1.heap.size = h1 at *
            go_loopw [47] (fun i wr => ∃ j : Nat, j ≤ k ∧ i = .int .i64 j ∧ PathW w g (stB b G T j) (.slice (some ⟨h1, 0, none⟩) k k) k (copyI (stS b G T) k j) wr) (fun i _ => k - (intOf i).toNat)
            case atStart => exact ⟨0, Nat.zero_le _, rfl, HP2.out⟩
            case round =>
              obtain ⟨j, hj, rfl, hP⟩ := hrel
              by_cases hlt : j < k
              · have i0 : (j : Int) < (k : Int) := by omega
                have hB : Below w.heap.size w wr := by rw [hg]; exact hP.b
                obtain ⟨bg, og, rfl, hbg, hcg⟩ := (HG.out.below hB).pos (by omega)
                obtain ⟨bt, ot, rfl, hbt, hct⟩ := (HT.out.below hB).pos (by omega)
                have kg := hcg j hlt
                have kt := hct j hlt
                have hst := stB_facts (G := G) HV.out HOK.out j (by omega)
                have htt := okTo_at HOK.out j hlt
                have hsv := vB_facts hst.1
                have hs2 := hst.2
                have hbg0 : bt < g := by
                  obtain ⟨b', o', e', hb', _⟩ := HT.out.pos (show 0 < k by omega)
                  injection e' with e'; injection e' with e1; omega
                have nbg : ¬ bt = g := by omega
                have ngb : ¬ g = bt := by omega
                have HS1 := Lib.hid (stB_step b G T j)
                have HSS := Lib.hid (show stS b G T j = (stB b G T (j + 1)).state from rfl)
                have HCS := Lib.hid (copyI_step (stS b G T) k j hlt)
                have hhg := (hP.o.lt h1 rfl).1
                have HP := Lib.hid hP
                clear hcg hct hP hst hB
                generalize hy : stB b G T (j + 1) = y at *
                have HY := Lib.hid hy
                clear hy
                generalize stB b G T j = x at *
                generalize G j = good at *
                generalize T j = t at *
                obtain ⟨y0, y1, y2, y3, y4, _, _, _, _, _⟩ := blk5 HP.out.x
                have V := fun w => implLets_calls x t w (by omega)
                cases hl : letsB x t
                · have e1 : y = x := by have := HS1.out; simp only [stepB, hl] at this; exact this
                  subst e1
                  rw [hl] at V
                  clear hl
                  go_wp2_with fail
                  go_region_held3 (fun w' => w'.cell? ⟨g, 0, none⟩ = some (.int .i64 y.limit) ∧ w'.cell? ⟨g, 1, none⟩ = some (.int .i64 y.rest) ∧ w'.cell? ⟨g, 2, none⟩ = some (.int .i64 y.state) ∧ w'.cell? ⟨g, 3, none⟩ = some (.int .i64 y.fails) ∧ w'.cell? ⟨g, 4, none⟩ = some (.int .i64 y.since) ∧ w'.cell? ⟨bt, ot + j, none⟩ = some (.int .i64 t)) (go_keep)
                    (first | (go_at_call 51; refine (V _).mono ?_; rintro e w3 ⟨rfl, hb3⟩; have hB3 : Below wr.heap.size wr w3 := (below_drew (Below.refl _ _)).trans (hb3.mono (Nat.le_refl _)); obtain ⟨s0, s1, s2, s3, s4, _, _, _, _, _⟩ := blk5 (keepBel hB3 HP.out.x); have s5 := (hB3.cell (p := ⟨bt, ot + j, none⟩) hbt).trans kt))
                  have P3 := HP.out.below hB3
                  clear y0 y1 y2 y3 y4 s0 s1 s2 s3 s4 s5
                  obtain ⟨z0, z1, z2, z3, z4, _, _, _, _, _⟩ := blk5 P3.x
                  have hcell := P3.o.cellAt j (by omega)
                  obtain ⟨u0, hu0⟩ := own_some P3.o j (by omega)
                  have hf0 := P3.o.frozenAt j
                  have P4 := P3.put HCS.out HSS.out
                  have HP4 := Lib.hid P4
                  clear P3 P4 hcell
                  go_wp2
                  go_roundw
                  case rel => exact ⟨j + 1, by omega, by go_num, by rw [HY.out]; exact HP4.out⟩
                  case measure => simp [intOf]; omega
                · have HE := Lib.hid (show y = endB (beginB x t) good t by have := HS1.out; simp only [stepB, hl] at this; exact this)
                  rw [hl] at V
                  clear hl
                  go_wp2_with fail
                  go_region_held3 (fun w' => w'.cell? ⟨g, 0, none⟩ = some (.int .i64 x.limit) ∧ w'.cell? ⟨g, 1, none⟩ = some (.int .i64 x.rest) ∧ w'.cell? ⟨g, 2, none⟩ = some (.int .i64 x.state) ∧ w'.cell? ⟨g, 3, none⟩ = some (.int .i64 x.fails) ∧ w'.cell? ⟨g, 4, none⟩ = some (.int .i64 x.since) ∧ w'.cell? ⟨bt, ot + j, none⟩ = some (.int .i64 t)) (go_keep)
                    (first | (go_at_call 51; refine (V _).mono ?_; rintro e w3 ⟨rfl, hb3⟩; have hB3 : Below wr.heap.size wr w3 := (below_drew (Below.refl _ _)).trans (hb3.mono (Nat.le_refl _)); obtain ⟨s0, s1, s2, s3, s4, _, _, _, _, _⟩ := blk5 (keepBel hB3 HP.out.x); have s5 := (hB3.cell (p := ⟨bt, ot + j, none⟩) hbt).trans kt))
                  have HP3 := Lib.hid (HP.out.below hB3)
                  have hbt3 := Nat.lt_of_lt_of_le hbt hB3.size
                  clear y0 y1 y2 y3 y4 kt kg HP hbt hbg hB3 V
                  go_wp2_with fail
                  have hbt4 := hbt3
                  clear s0 s1 s2 s3 s4
                  obtain ⟨y0, y1, y2, y3, y4, _, _, _, _, _⟩ := blk5 HP3.out.x
                  have hbf := beginB_fails x t
                  have VB := fun w => implBegin_calls x t w
                  have VE := fun w => implEnd_calls (beginB x t) good t w (by omega)
                  rw [← HE.out] at VE
                  generalize beginB x t = z at *
                  go_region_with
                    (first
                      | (go_at_call 56; refine (VB _).mono ?_; rintro e w4 ⟨rfl, hb4⟩; have hB4 : Below w3.heap.size w3 w4 := (below_drew (Below.refl _ _)).trans (hb4.mono (Nat.le_refl _)); have q5 := (hB4.cell (p := ⟨bt, ot + j, none⟩) hbt3).trans s5)
                      | (go_at_call 58; refine (VE _).mono ?_; rintro e w5 ⟨rfl, hb5⟩; have hB5 : Below w3.heap.size w3 w5 := hB4.trans (hb5.mono hB4.size); have q6 := (hB5.cell (p := ⟨bt, ot + j, none⟩) hbt3).trans s5; obtain ⟨v0, v1, v2, v3, v4, u0, u1, u2, u3, u4⟩ := blk5 (keepBel hB5 HP3.out.x)))
                  all_goals
                    have P3 := (HP3.out.below hB5).set (y := y)
                    have HP5 := Lib.hid P3
                    obtain ⟨z0, z1, z2, z3, z4, _, _, _, _, _⟩ := blk5 P3.x
                    have hcell := P3.o.cellAt j (by omega)
                    obtain ⟨u0, hu0⟩ := own_some P3.o j (by omega)
                    have hf0 := P3.o.frozenAt j
                    have P4 := P3.put HCS.out HSS.out
                    have HP4 := Lib.hid P4
                    clear P3 P4 hcell
                    generalize (((((w5.setCell ⟨g, 0, none⟩ (.int .i64 y.limit)).setCell ⟨g, 1, none⟩ (.int .i64 y.rest)).setCell ⟨g, 2, none⟩ (.int .i64 y.state)).setCell ⟨g, 3, none⟩ (.int .i64 y.fails)).setCell ⟨g, 4, none⟩ (.int .i64 y.since)) = w6 at *
                    go_wp2
                    go_roundw
                    case rel => exact ⟨j + 1, by omega, by go_num, by rw [HY.out]; exact HP4.out⟩
                    case measure => simp [intOf]; omega
              · obtain rfl : j = k := by omega
                have ho := hP.o
                have hB := hP.b
                have e : copyI (stS b G T) j j = (List.range j).map (stS b G T) := by unfold copyI; exact List.map_congr_left fun i hi => if_pos (List.mem_range.1 hi)
                rw [e] at ho
                have HO := Lib.hid ho
                have HL := Lib.hid (show ((List.range j).map (stS b G T)).length = j by simp)
                subst hg
                clear ho e hP
                go_wp2
                go_ret
                exact PathR_mk HZ.out HL.out HO.out (by omega) hB
      · have hm' : ((n : Int) != (m : Int)) = true := by simp; omega
        rw [pathB_bad (by simp [validP, hm])]
        clear hv
        go_enter Try.func36, Try.ntmps36
        go_wp2_with (go_at_call 21; refine (V).mono ?_; rintro e w' ⟨rfl, hb⟩)
        go_ret
        exact PathR_nil (B0.trans (hb.mono B0.size))
end Go.Proofs.Ytcgnaokpdlbhbaa
