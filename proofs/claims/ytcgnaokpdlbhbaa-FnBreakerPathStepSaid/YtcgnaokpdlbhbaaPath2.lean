/- BreakerPath of the reference. -/
import Derived.Test.YtcgnaokpdlbhbaaPath1
namespace Go.Proofs.Ytcgnaokpdlbhbaa
open Go.ChangeShapes Go.WideShapes Go.ChangeAt Go.RowKit
set_option linter.unusedVariables false
attribute [local go_sem ↓] Go.wp_at_zero Go.wp_at_succ

theorem own_slice {w : World} {base : Nat} {e : TypeId} {s : Nat} {v : Value} {n : Nat} {xs : List Value} (h : w.ownsRow base e s v n xs) : ∃ a c, v = .slice a n c := by
  rcases h.2 with ⟨h1, h2⟩ | ⟨g, c, _, h1, _⟩
  · exact ⟨none, 0, by rw [h1, h2]⟩
  · exact ⟨_, _, h1⟩
def allI (T : Nat → Int) (lo hi : Int) : Nat → Bool
  | 0 => true
  | k + 1 => allI T lo hi k && inB lo hi (T k)
theorem allI_no {T : Nat → Int} {lo hi : Int} {n k : Nat} (hk : k < n) (h : inB lo hi (T k) = false) : allI T lo hi n = false := by
  induction n with
  | zero => omega
  | succ n ih =>
    simp only [allI]
    by_cases e : k = n
    · subst e; rw [h]; simp
    · rw [ih (by omega)]; rfl
theorem allI_at {T : Nat → Int} {lo hi : Int} {n : Nat} (h : allI T lo hi n = true) (k : Nat) (hk : k < n) : lo ≤ T k ∧ T k ≤ hi := by
  cases h2 : inB lo hi (T k)
  · rw [allI_no hk h2] at h; simp at h
  · exact inB_yes h2
theorem allI_mk {T : Nat → Int} {lo hi : Int} {n : Nat} (h : ∀ k, k < n → lo ≤ T k ∧ T k ≤ hi) : allI T lo hi n = true := by
  induction n with
  | zero => rfl
  | succ n ih => simp only [allI, ih (fun k hk => h k (by omega)), inB_mk (h n (by omega))]; rfl
theorem allIn_calls (ao : Option Addr) (n cap : Nat) (T : Nat → Int) (lo hi : Int) (w : World) (h : RdI w ao n cap T) :
    Calls Try.prog 60 #[.slice ao n cap, .int .i64 lo, .int .i64 hi] w fun e w' => e = .returned (.bool (allI T lo hi n)) ∧ w = w' := by
  have hlen := h.len
  go_enter Try.func60, Try.ntmps60
  go_wp2
  go_loop [7] (fun i => ∃ k : Nat, k ≤ n ∧ i = .int .i64 k ∧ allI T lo hi k = true) (fun i => n - (intOf i).toNat)
  case atStart => exact ⟨0, Nat.zero_le _, rfl, rfl⟩
  case round =>
    obtain ⟨k, hk, rfl, hok⟩ := hrel
    have HK := Lib.hid hok
    clear hok
    by_cases hlt : k < n
    · obtain ⟨b, off, rfl, hb, hc⟩ := h.pos (by omega)
      have ck := hc k hlt
      have i0 : (k : Int) < (n : Int) := by omega
      have C := fun w => inRange_calls (T k) lo hi w
      clear hc
      cases hin : inB lo hi (T k)
      · have HN := Lib.hid (allI_no hlt hin)
        rw [hin] at C
        clear hin
        go_wp2_with (go_at_call 48; refine (C _).mono ?_; rintro e w' ⟨rfl, rfl⟩)
        go_ret
        exact ⟨ret_bool HN.out.symm, rfl⟩
      · have HN := Lib.hid (show allI T lo hi (k + 1) = true by simp only [allI, HK.out, hin]; rfl)
        rw [hin] at C
        clear hin
        go_wp2_with (go_at_call 48; refine (C _).mono ?_; rintro e w' ⟨rfl, rfl⟩)
        go_round
        case rel => exact ⟨k + 1, by omega, by go_num, HN.out⟩
        case measure => simp [intOf]; omega
    · obtain rfl : k = n := by omega
      go_wp2
      go_ret
      exact ⟨ret_bool HK.out.symm, rfl⟩

theorem okTo_bad {s : Int} {T : Nat → Int} {n : Nat} (h : allI T s 1000 n = false) : okTo s T n = false := by
  cases h2 : okTo s T n
  · rfl
  · rw [allI_mk (okTo_spec.1 h2).1] at h; exact absurd h (by decide)
theorem okTo_fall {s : Int} {T : Nat → Int} {n k : Nat} (h0 : 0 < k) (hk : k < n) (h : T k < T (k - 1)) : okTo s T n = false := by
  cases h2 : okTo s T n
  · rfl
  · have := (okTo_spec.1 h2).2 k h0 hk; omega
theorem okTo_good {s : Int} {T : Nat → Int} {n : Nat} (h : allI T s 1000 n = true) (h2 : ∀ k, 0 < k → k < n → T (k - 1) ≤ T k) : okTo s T n = true :=
  okTo_spec.2 ⟨fun k hk => allI_at h k hk, h2⟩

theorem PathR_none {w w' : World} {Z : List Int} (hZ : Z = []) (hb : Below w.heap.size w w') : PathR w Z (.returned (.slice none 0 0)) w' := by subst hZ; exact PathR_nil hb
theorem PathW.app {w : World} {g j : Nat} {x : Bk} {F : Nat → Int} {v v' : Value} {wr w1 : World} {u : Int} (hp : PathW w g x v j ((List.range j).map F) wr) (hu : F j = u)
    (O : w1.ownsRow (g + 1) 3 1 v' (j + 1) (List.map (Value.int .i64 ∘ F) (List.range j) ++ [.int .i64 u])) (G : wr.grownBy w1 v.ownBlock) : PathW w g x v' (j + 1) ((List.range (j + 1)).map F) w1 := by
  subst hu
  have hlt := hp.o.lt
  refine ⟨hp.b.grown G (Nat.le_of_lt (Array.getElem?_eq_some_iff.1 hp.x).1) (fun k hk => by have := hlt k hk; omega), (G.block _ (Array.getElem?_eq_some_iff.1 hp.x).1 (fun e => by have := hlt _ e.symm; omega)).trans hp.x, ?_⟩
  have e : ((List.range (j + 1)).map F).map (Value.int .i64) = List.map (Value.int .i64 ∘ F) (List.range j) ++ [.int .i64 (F j)] := by simp [List.range_succ]
  rw [e]; exact O

set_option maxHeartbeats 6400000 in
theorem specBreakerPath_own (b : Bk) (ag : Option Addr) (n cg : Nat) (G : Nat → Bool) (at' : Option Addr) (m ct : Nat) (T : Nat → Int) (w : World) (hG : RdB w ag n cg G) (hT : RdI w at' m ct T) :
    Calls Try.prog 33 #[.agg #[.int .i64 b.limit, .int .i64 b.rest, .int .i64 b.state, .int .i64 b.fails, .int .i64 b.since], .slice ag n cg, .slice at' m ct] w (PathR w (pathB b n m G T)) := by
  have hlen := hG.len
  have hlen2 := hT.len
  have V := specvalidBreaker_calls b ((w.alloc (.cells #[.int .i64 b.limit, .int .i64 b.rest, .int .i64 b.state, .int .i64 b.fails, .int .i64 b.since] 25)).alloc (.cells #[] 3))
  have B0 : Below w.heap.size w ((w.alloc (.cells #[.int .i64 b.limit, .int .i64 b.rest, .int .i64 b.state, .int .i64 b.fails, .int .i64 b.since] 25)).alloc (.cells #[] 3)) := ((Below.refl _ _).alloc (Nat.le_refl _) _).alloc (by simp) _
  cases hv : vB b
  · rw [pathB_bad (by simp [validP, hv])]
    rw [hv] at V
    clear hv
    go_enter Try.func33, Try.ntmps33
    go_wp2_with (go_at_call 44; refine (V).mono ?_; rintro e w' ⟨rfl, hb⟩)
    go_ret
    exact PathR_nil (B0.trans (hb.mono B0.size))
  · rw [hv] at V
    by_cases hm : n = m
    · subst hm
      have hnn : ((n : Int) != (n : Int)) = false := by simp
      by_cases hn : 12 < n
      · rw [pathB_bad (by have : ¬ n ≤ 12 := by omega
                          simp [validP, this])]
        have hn' : (12 : Int) < (n : Int) := by omega
        clear hv
        go_enter Try.func33, Try.ntmps33
        go_wp2_with (go_at_call 44; refine (V).mono ?_; rintro e w' ⟨rfl, hb⟩)
        go_ret
        exact PathR_nil (B0.trans (hb.mono B0.size))
      · have hn' : ¬ (12 : Int) < (n : Int) := by omega
        have HV := Lib.hid hv
        clear hv hlen2
        go_enter Try.func33, Try.ntmps33
        go_wp2_with fail
        refine V.mono ?_
        rintro e w1 ⟨rfl, hb⟩
        have B1 := B0.trans (hb.mono B0.size)
        have HX := Lib.hid (keepBel hb (keepA (heap_alloc_new w (.cells #[.int .i64 b.limit, .int .i64 b.rest, .int .i64 b.state, .int .i64 b.fails, .int .i64 b.since] 25)) _))
        have HO := Lib.hid (own_below ((World.ownsRow_lit (w.alloc (.cells #[.int .i64 b.limit, .int .i64 b.rest, .int .i64 b.state, .int .i64 b.fails, .int .i64 b.since] 25)) #[] 0 (Nat.le_refl _) (Nat.zero_le _) rfl : _) : World.ownsRow _ (w.alloc (.cells #[.int .i64 b.limit, .int .i64 b.rest, .int .i64 b.state, .int .i64 b.fails, .int .i64 b.since] 25)).heap.size 3 1 _ 0 []) hb)
        obtain ⟨x0, x1, x2, x3, x4, _, _, _, _, _⟩ := blk5 HX.out
        have A := fun w' (hb : Below w.heap.size w w') => allIn_calls at' n ct T b.since 1000 w' (hT.below hb)
        have HG := Lib.hid hG
        have HT := Lib.hid hT
        clear V B0 hb hG hT
        cases ha : allI T b.since 1000 n
        · have HZ := Lib.hid (path_no (m := n) (G := G) (okTo_bad ha))
          have A1 := A _ B1
          rw [ha] at A1
          clear ha A
          go_wp2_with (go_at_call 60; refine (A1).mono ?_; rintro e w' ⟨rfl, rfl⟩)
          go_ret
          exact PathR_none HZ.out B1
        · have A1 := A _ B1
          rw [ha] at A1
          have HA := Lib.hid ha
          clear ha A
          go_wp2_with (go_at_call 60; refine (A1).mono ?_; rintro e w' ⟨rfl, rfl⟩)
          have hw1 := B1.size
          go_loopw [8] (fun i wr => ∃ k : Nat, (k ≤ n ∨ k = 1) ∧ 0 < k ∧ i = .int .i64 k ∧ (∀ q, 0 < q → q < k → q < n → T (q - 1) ≤ T q) ∧ Below w1.heap.size w1 wr) (fun i _ => n - (intOf i).toNat)
          case atStart => exact ⟨1, .inr rfl, by omega, rfl, fun q _ _ => by omega, Below.refl _ _⟩
          case round =>
            obtain ⟨k, hk, hk0, rfl, hso, hB⟩ := hrel
            have HSO := Lib.hid hso
            clear hso
            by_cases hlt : k < n
            · obtain ⟨kp, rfl⟩ : ∃ kp, k = kp + 1 := ⟨k - 1, by omega⟩
              have i0 : (kp : Int) + 1 < (n : Int) := by omega
              have i1 : (kp : Int) < (n : Int) := by omega
              have i2 : (0 : Int) ≤ (kp : Int) + 1 := by omega
              have hwp : IntKind.i64.wrap (kp : Int) = (kp : Int) := IntWalk.i64_in _ (by omega)
              obtain ⟨bt, ot, rfl, hbt, hct⟩ := (HT.out.below (B1.trans (hB.mono hw1))).pos (by omega)
              have c1 := hct (kp + 1) hlt
              have c0 := hct kp (by omega)
              clear hct
              by_cases hf : T (kp + 1) < T kp
              · have HZ := Lib.hid (path_no (m := n) (G := G) (okTo_fall (s := b.since) (k := kp + 1) (by omega) hlt hf))
                go_wp2
                go_quiet (fail)
                go_wp2
                go_ret
                exact PathR_none HZ.out (below_drewN (B1.trans (hB.mono hw1)) _)
              · have HN := Lib.hid (show ∀ q, 0 < q → q < kp + 1 + 1 → q < n → T (q - 1) ≤ T q from fun q h0 h1 h2 => by
                  by_cases e : q = kp + 1
                  · subst e; simp; omega
                  · exact HSO.out q h0 (by omega) h2)
                go_wp2
                go_quiet (fail)
                go_wp2
                go_roundw
                case rel => exact ⟨kp + 1 + 1, by omega, by omega, by go_num, HN.out, below_drewN hB _⟩
                case measure => simp [intOf]; omega
            · have HOK := Lib.hid (okTo_good HA.out (fun q h0 h1 => HSO.out q h0 (by omega) h1))
              have HZ := Lib.hid (path_all (G := G) HV.out (by omega) HOK.out)
              have B3 := B1.trans (hB.mono hw1)
              have P3 : PathW w w.heap.size (stB b G T 0) (.slice (some ⟨w.heap.size + 1, 0, none⟩) 0 0) 0 ((List.range 0).map (stS b G T)) wr := ⟨B3, keepBel hB HX.out, by have := own_below HO.out hB; simpa using this⟩
              have HP3 := Lib.hid P3
              clear P3 hk HSO
              go_wp2
              go_loopw [7, 9] (fun o i wr => ∃ j : Nat, j ≤ n ∧ i = .int .i64 j ∧ PathW w w.heap.size (stB b G T j) o j ((List.range j).map (stS b G T)) wr) (fun _ i _ => n - (intOf i).toNat)
              case atStart => exact ⟨0, Nat.zero_le _, rfl, HP3.out⟩
              case round =>
                obtain ⟨j, hj, rfl, hP⟩ := hrel
                obtain ⟨oa, oc, rfl⟩ := own_slice hP.o
                by_cases hlt : j < n
                · have i0 : (j : Int) < (n : Int) := by omega
                  have hB := hP.b
                  obtain ⟨bg, og, rfl, hbg, hcg⟩ := (HG.out.below hB).pos (by omega)
                  obtain ⟨bt, ot, rfl, hbt, hct⟩ := (HT.out.below hB).pos (by omega)
                  have kg := hcg j hlt
                  have kt := hct j hlt
                  have hst := stB_facts (G := G) HV.out HOK.out j (by omega)
                  have htt := okTo_at HOK.out j hlt
                  have hsv := vB_facts hst.1
                  have hs2 := hst.2
                  have HS1 := Lib.hid (stB_step b G T j)
                  have HSS := Lib.hid (show stS b G T j = (stB b G T (j + 1)).state from rfl)
                  have HP := Lib.hid hP
                  clear hcg hct hP hst hB
                  generalize hy : stB b G T (j + 1) = y at *
                  have HY := Lib.hid hy
                  clear hy
                  generalize stB b G T j = x at *
                  generalize G j = good at *
                  generalize T j = t at *
                  obtain ⟨y0, y1, y2, y3, y4, _, _, _, _, _⟩ := blk5 HP.out.x
                  have V := fun w => specLets_calls x t w (by omega)
                  generalize hg : w.heap.size = g at *
                  cases hl : letsB x t
                  · have e1 : y = x := by have := HS1.out; simp only [stepB, hl] at this; exact this
                    subst e1
                    rw [hl] at V
                    clear hl
                    go_wp2_with fail
                    go_region_held3 (fun w' => w'.cell? ⟨g, 0, none⟩ = some (.int .i64 y.limit) ∧ w'.cell? ⟨g, 1, none⟩ = some (.int .i64 y.rest) ∧ w'.cell? ⟨g, 2, none⟩ = some (.int .i64 y.state) ∧ w'.cell? ⟨g, 3, none⟩ = some (.int .i64 y.fails) ∧ w'.cell? ⟨g, 4, none⟩ = some (.int .i64 y.since) ∧ w'.cell? ⟨bt, ot + j, none⟩ = some (.int .i64 t)) (go_keep)
                      (first | (go_at_call 49; refine (V _).mono ?_; rintro e w3 ⟨rfl, hb3⟩; have hB3 : Below wr.heap.size wr w3 := (below_drew (Below.refl _ _)).trans (hb3.mono (Nat.le_refl _)); obtain ⟨s0, s1, s2, s3, s4, _, _, _, _, _⟩ := blk5 (keepBel hB3 HP.out.x); have s5 := (hB3.cell (p := ⟨bt, ot + j, none⟩) hbt).trans kt))
                    have P3 := HP.out.below hB3
                    clear y0 y1 y2 y3 y4 s0 s1 s2 s3 s4 s5
                    obtain ⟨z0, z1, z2, z3, z4, _, _, _, _, _⟩ := blk5 P3.x
                    have HP5 := Lib.hid P3
                    have hgs := (Array.getElem?_eq_some_iff.1 P3.x).1
                    clear P3
                    go_wp2_with (at_builtin; refine app1 Try.underlying43 infoInt rfl (by decide) (by decide) HP5.out.o (by omega) (by omega) rfl (by simp [Value.oneCell']) _ _ rfl rfl rfl rfl ?_)
                    intro v' w7 O7 G7
                    have HP7 := Lib.hid (HP5.out.app HSS.out O7 G7)
                    clear O7 G7
                    go_wp2
                    go_roundw
                    case rel => exact ⟨j + 1, by omega, by go_num, by rw [HY.out]; exact HP7.out⟩
                    case measure => simp [intOf]; omega
                  · have HE := Lib.hid (show y = endB (beginB x t) good t by have := HS1.out; simp only [stepB, hl] at this; exact this)
                    rw [hl] at V
                    clear hl
                    go_wp2_with fail
                    go_region_held3 (fun w' => w'.cell? ⟨g, 0, none⟩ = some (.int .i64 x.limit) ∧ w'.cell? ⟨g, 1, none⟩ = some (.int .i64 x.rest) ∧ w'.cell? ⟨g, 2, none⟩ = some (.int .i64 x.state) ∧ w'.cell? ⟨g, 3, none⟩ = some (.int .i64 x.fails) ∧ w'.cell? ⟨g, 4, none⟩ = some (.int .i64 x.since) ∧ w'.cell? ⟨bt, ot + j, none⟩ = some (.int .i64 t)) (go_keep)
                      (first | (go_at_call 49; refine (V _).mono ?_; rintro e w3 ⟨rfl, hb3⟩; have hB3 : Below wr.heap.size wr w3 := (below_drew (Below.refl _ _)).trans (hb3.mono (Nat.le_refl _)); obtain ⟨s0, s1, s2, s3, s4, _, _, _, _, _⟩ := blk5 (keepBel hB3 HP.out.x); have s5 := (hB3.cell (p := ⟨bt, ot + j, none⟩) hbt).trans kt))
                    have HP3 := Lib.hid (HP.out.below hB3)
                    have hbt3 := Nat.lt_of_lt_of_le hbt hB3.size
                    have hbg3 := Nat.lt_of_lt_of_le hbg hB3.size
                    have s6 := (hB3.cell (p := ⟨bg, og + j, none⟩) hbg).trans kg
                    clear y0 y1 y2 y3 y4 kt kg HP hbt hbg hB3 V
                    go_wp2_with fail
                    clear s0 s1 s2 s3 s4
                    obtain ⟨y0, y1, y2, y3, y4, _, _, _, _, _⟩ := blk5 HP3.out.x
                    have hbf := beginB_fails x t
                    have VB := fun w => specBegin_calls x t w (by omega)
                    have VE := fun w => specEnd_calls (beginB x t) good t w (by omega)
                    rw [← HE.out] at VE
                    generalize beginB x t = z at *
                    go_region_with
                      (first
                        | (go_at_call 55; refine (VB _).mono ?_; rintro e w4 ⟨rfl, hb4⟩; have hB4 : Below w3.heap.size w3 w4 := (below_drew (Below.refl _ _)).trans (hb4.mono (Nat.le_refl _)); have q5 := (hB4.cell (p := ⟨bt, ot + j, none⟩) hbt3).trans s5; have q6 := (hB4.cell (p := ⟨bg, og + j, none⟩) hbg3).trans s6)
                        | (go_at_call 57; refine (VE _).mono ?_; rintro e w5 ⟨rfl, hb5⟩; have hB5 : Below w3.heap.size w3 w5 := hB4.trans (hb5.mono hB4.size); obtain ⟨v0, v1, v2, v3, v4, u0, u1, u2, u3, u4⟩ := blk5 (keepBel hB5 HP3.out.x)))
                    all_goals
                      have P3 := (HP3.out.below hB5).set (y := y)
                      generalize (((((w5.setCell ⟨g, 0, none⟩ (.int .i64 y.limit)).setCell ⟨g, 1, none⟩ (.int .i64 y.rest)).setCell ⟨g, 2, none⟩ (.int .i64 y.state)).setCell ⟨g, 3, none⟩ (.int .i64 y.fails)).setCell ⟨g, 4, none⟩ (.int .i64 y.since)) = w6 at *
                      obtain ⟨z0, z1, z2, z3, z4, _, _, _, _, _⟩ := blk5 P3.x
                      have HP5 := Lib.hid P3
                      have hgs := (Array.getElem?_eq_some_iff.1 P3.x).1
                      clear P3
                      go_wp2_with (at_builtin; refine app1 Try.underlying43 infoInt rfl (by decide) (by decide) HP5.out.o (by omega) (by omega) rfl (by simp [Value.oneCell']) _ _ rfl rfl rfl rfl ?_)
                      intro v' w7 O7 G7
                      have HP7 := Lib.hid (HP5.out.app HSS.out O7 G7)
                      clear O7 G7
                      go_wp2
                      go_roundw
                      case rel => exact ⟨j + 1, by omega, by go_num, by rw [HY.out]; exact HP7.out⟩
                      case measure => simp [intOf]; omega
                · obtain rfl : j = n := by omega
                  have ho := hP.o
                  have hBf := hP.b
                  have HOf := Lib.hid ho
                  have HL := Lib.hid (show ((List.range j).map (stS b G T)).length = j by simp)
                  clear ho hP
                  go_wp2
                  go_ret
                  exact PathR_mk HZ.out HL.out HOf.out (by omega) hBf
    · have hm' : ((n : Int) != (m : Int)) = true := by simp; omega
      rw [pathB_bad (by simp [validP, hm])]
      clear hv
      go_enter Try.func33, Try.ntmps33
      go_wp2_with (go_at_call 44; refine (V).mono ?_; rintro e w' ⟨rfl, hb⟩)
      go_ret
      exact PathR_nil (B0.trans (hb.mono B0.size))
end Go.Proofs.Ytcgnaokpdlbhbaa
