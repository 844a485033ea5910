/- The walk of FnBreakerPathStep. -/
import Derived.Test.YtcgnaokpdlbhbaaPathLaws2
import Derived.Deep.DeepCutAuto
namespace Go.Proofs.Ytcgnaokpdlbhbaa
open Go.ChangeShapes Go.WideShapes Go.ChangeAt Go.RowKit
set_option linter.unusedVariables false

theorem stB_shift (b : Bk) (G : Nat → Bool) (T : Nat → Int) : ∀ k, stB (stepB b (G 0) (T 0)) (fun i => G (1 + i)) (fun i => T (1 + i)) k = stB b G T (k + 1) := by
  intro k
  induction k with
  | zero => rfl
  | succ k ih =>
    rw [stB_step, ih, stB_step b G T (k + 1), Nat.add_comm 1 k]
theorem stS_shift (b : Bk) (G : Nat → Bool) (T : Nat → Int) : stS (stepB b (G 0) (T 0)) (fun i => G (1 + i)) (fun i => T (1 + i)) = fun i => stS b G T (1 + i) := by
  funext k
  unfold stS
  rw [stB_shift, Nat.add_comm 1 k]
theorem step_ok {b : Bk} {T : Nat → Int} {n : Nat} (g : Bool) (hv : vB b = true) (h : okTo b.since T (n + 1) = true) : vB (stepB b g (T 0)) = true ∧ okTo (stepB b g (T 0)).since (fun i => T (1 + i)) n = true := by
  have hs := okTo_spec.1 h
  have h0 := hs.1 0 (by omega)
  have hf := step_facts (g := g) hv h0.1 h0.2
  refine ⟨hf.1, okTo_spec.2 ⟨fun k hk => ⟨?_, (hs.1 (1 + k) (by omega)).2⟩, fun k h1 h2 => ?_⟩⟩
  · have aux : ∀ q, q ≤ n → T 0 ≤ T q := by
      intro q
      induction q with
      | zero => intro _; exact Int.le_refl _
      | succ q ih => intro hq; have := ih (by omega); have := hs.2 (q + 1) (by omega) (by omega); simp at this; omega
    have := aux (1 + k) (by omega)
    omega
  · have := hs.2 (1 + k) (by omega) (by omega)
    have e : 1 + k - 1 = 1 + (k - 1) := by omega
    rw [e] at this; exact this
theorem RdB_drop1 {w : World} {b off n cap : Nat} {G : Nat → Bool} (h : RdB w (some ⟨b, off, none⟩) n cap G) (hn : 1 ≤ n) : RdB w (some ⟨b, off + 1, none⟩) (n - 1) (cap - 1) (fun i => G (1 + i)) := by
  have := Rd.drop h (k := 1) hn
  rw [Nat.one_mul] at this
  exact this
/-- A breaker in a new variable, and a bool. -/
def MadeB (w : World) (z : Bk) (ok : Bool) (s8 s9 : Value) (wx : World) : Prop :=
  ∃ q : Nat, s8 = .pointer (some ⟨q, 0, none⟩) ∧ s9 = .bool ok ∧ wx.heap[q]? = some (.cells #[.int .i64 z.limit, .int .i64 z.rest, .int .i64 z.state, .int .i64 z.fails, .int .i64 z.since] 25 (0, 0)) ∧ w.heap.size ≤ q ∧ Below w.heap.size w wx
theorem madeB_new {w w6 : World} {z : Bk} {ok : Bool} (h : Below w.heap.size w w6) : MadeB w z ok (.pointer (some ⟨w6.heap.size, 0, none⟩)) (.bool ok) (w6.alloc (.cells #[.int .i64 z.limit, .int .i64 z.rest, .int .i64 z.state, .int .i64 z.fails, .int .i64 z.since] 25)) :=
  ⟨w6.heap.size, rfl, rfl, heap_alloc_new w6 _, h.size, h.alloc h.size _⟩
theorem madeB_set {w w6 : World} {z : Bk} {ok : Bool} {a b c d e : Value} (h : Below w.heap.size w w6) (hz : w6.heap[w.heap.size]? = some (.cells #[a, b, c, d, e] 25 (0, 0))) :
    MadeB w z ok (.pointer (some ⟨w.heap.size, 0, none⟩)) (.bool ok) (((((w6.setCell ⟨w.heap.size, 0, none⟩ (.int .i64 z.limit)).setCell ⟨w.heap.size, 1, none⟩ (.int .i64 z.rest)).setCell ⟨w.heap.size, 2, none⟩ (.int .i64 z.state)).setCell ⟨w.heap.size, 3, none⟩ (.int .i64 z.fails)).setCell ⟨w.heap.size, 4, none⟩ (.int .i64 z.since)) :=
  ⟨w.heap.size, rfl, rfl, set5_same hz _ _ _ _ _, Nat.le_refl _, ((((h.setCell (Nat.le_refl _) _).setCell (Nat.le_refl _) _).setCell (Nat.le_refl _) _).setCell (Nat.le_refl _) _).setCell (Nat.le_refl _) _⟩
theorem Rd0 {w : World} {s : Nat} {x : Addr} {c : Nat} {f : Nat → Nat → Value} (hc : c ≤ maxLen) : Rd w s (some x) 0 c f := ⟨Nat.zero_le _, hc, fun h => by simp at h, .inl rfl⟩

set_option maxRecDepth 100000 in
set_option maxHeartbeats 6400000 in
theorem fnBreakerPathStep_walk (ao : Option Addr) (n cap : Nat) (c : Nat → Int) (w : World) (h : Code8 w ao n cap c) : Calls Try.prog 18 #[.slice ao n cap] w (SaysTrue w) := by
  have hcap := code_len8 h
  by_cases hn : 1048576 < n
  · go_enter Try.func18, Try.ntmps18
    go_wp2
    go_ret
    exact ⟨rfl, Below.refl _ _⟩
  · go_enter Try.func18, Try.ntmps18
    go_wp2_with fail
    refine (drawBreakerPath_calls ao n cap c w h).mono ?_
    rintro e w0 ⟨b, k, G, ag, cg, m, T, at', ct, rfl, hk, hm, RG0, RT0, B0⟩
    have D1 : Below w.heap.size w (w0.alloc (.cells #[.int .i64 b.limit, .int .i64 b.rest, .int .i64 b.state, .int .i64 b.fails, .int .i64 b.since] 25)) := B0.alloc B0.size _
    have RG1 := RG0.below ((Below.refl w0.heap.size w0).alloc (Nat.le_refl _) (.cells #[.int .i64 b.limit, .int .i64 b.rest, .int .i64 b.state, .int .i64 b.fails, .int .i64 b.since] 25))
    have RT1 := RT0.below ((Below.refl w0.heap.size w0).alloc (Nat.le_refl _) (.cells #[.int .i64 b.limit, .int .i64 b.rest, .int .i64 b.state, .int .i64 b.fails, .int .i64 b.since] 25))
    have X1 := heap_alloc_new w0 (.cells #[.int .i64 b.limit, .int .i64 b.rest, .int .i64 b.state, .int .i64 b.fails, .int .i64 b.since] 25)
    have HX1 := Lib.hid X1
    clear X1 RG0 RT0
    rcases path_cases b k m G T with hZ | ⟨rfl, h0, h12, hv, hok⟩
    · have HZ := Lib.hid hZ
      clear hZ
      go_wp2_with fail
      generalize (w0.alloc (.cells #[.int .i64 b.limit, .int .i64 b.rest, .int .i64 b.state, .int .i64 b.fails, .int .i64 b.since] 25)) = w1 at *
      go_wp2_with fail
      refine (implPath_none HZ.out RG1 RT1).mono ?_
      rintro e w2 ⟨ao2, co, rfl, RO, hb2⟩
      have D2 := D1.trans (hb2.mono D1.size)
      obtain ⟨x0, x1, x2, x3, x4, _, _, _, _, _⟩ := blk5 (keepBel hb2 HX1.out)
      go_wp2_with fail
      refine (specPath_none HZ.out (RG1.below hb2) (RT1.below hb2)).mono ?_
      rintro e w3 ⟨as3, cs, rfl, RS3, hb3⟩
      have D3 := D2.trans (hb3.mono D2.size)
      clear x0 x1 x2 x3 x4
      go_wp2_with fail
      refine (equalInts_calls _ _ _ _ _ _ _ (RO.below hb3) RS3).mono ?_
      rintro e w4 ⟨rfl, hb4⟩
      have D4 := D3.trans (hb4.mono D3.size)
      obtain ⟨x0, x1, x2, x3, x4, _, _, _, _, _⟩ := blk5 (keepBel hb4 (keepBel hb3 (keepBel hb2 HX1.out)))
      go_wp2_with fail
      refine (specPath_none HZ.out (((RG1.below hb2).below hb3).below hb4) (((RT1.below hb2).below hb3).below hb4)).mono ?_
      rintro e w5 ⟨as5, cs5, rfl, RS5, hb5⟩
      have D5 := D4.trans (hb5.mono D4.size)
      clear x0 x1 x2 x3 x4
      go_wp2_with fail
      refine (equalInts_calls _ _ _ _ _ _ _ (((RO.below hb3).below hb4).below hb5) RS5).mono ?_
      rintro e w6 ⟨rfl, hb6⟩
      have D6 := D5.trans (hb6.mono D5.size)
      go_wp2
      go_ret
      exact ⟨rfl, D6⟩
    · have HV := Lib.hid hv
      have HOK := Lib.hid hok
      clear hv hok
      go_wp2_with fail
      generalize (w0.alloc (.cells #[.int .i64 b.limit, .int .i64 b.rest, .int .i64 b.state, .int .i64 b.fails, .int .i64 b.since] 25)) = w1 at *
      go_wp2_with fail
      refine (implPath_yes HV.out h12 HOK.out RG1 RT1).mono ?_
      rintro e w2 ⟨ao2, co, rfl, RO, hb2⟩
      have D2 := D1.trans (hb2.mono D1.size)
      obtain ⟨x0, x1, x2, x3, x4, _, _, _, _, _⟩ := blk5 (keepBel hb2 HX1.out)
      go_wp2_with fail
      refine (specPath_yes HV.out h12 HOK.out (RG1.below hb2) (RT1.below hb2)).mono ?_
      rintro e w3 ⟨as3, cs, rfl, RS3, hb3⟩
      have D3 := D2.trans (hb3.mono D2.size)
      clear x0 x1 x2 x3 x4
      go_wp2_with fail
      refine (equalInts_calls _ _ _ _ _ _ _ (RO.below hb3) RS3).mono ?_
      rintro e w4 ⟨rfl, hb4⟩
      have D4 := D3.trans (hb4.mono D3.size)
      obtain ⟨n1, rfl⟩ : ∃ n1, k = n1 + 1 := ⟨k - 1, by omega⟩
      have X4 := keepBel hb4 (keepBel hb3 (keepBel hb2 HX1.out))
      have RG4 := ((RG1.below hb2).below hb3).below hb4
      have RT4 := ((RT1.below hb2).below hb3).below hb4
      have RO4 := (RO.below hb3).below hb4
      have B45 : Below w4.heap.size w4 (w4.alloc (.cells #[.int .i64 b.limit, .int .i64 b.rest, .int .i64 b.state, .int .i64 b.fails, .int .i64 b.since] 25)) := (Below.refl _ _).alloc (Nat.le_refl _) _
      have D5 := D4.trans (B45.mono D4.size)
      have HX5 := Lib.hid (keepBel B45 X4)
      have HN5 := Lib.hid (heap_alloc_new w4 (.cells #[.int .i64 b.limit, .int .i64 b.rest, .int .i64 b.state, .int .i64 b.fails, .int .i64 b.since] 25))
      have hG4 := RG4.1
      have hT4 := RT4.1
      have hO4 := RO4.1
      have hG5 := RG4.2.1
      have hT5 := RT4.2.1
      have hO5 := RO4.2.1
      obtain ⟨gb, gf, rfl, hgb, hgc⟩ := (RG4.below B45).pos (by omega)
      obtain ⟨tb, tf, rfl, htb, htc⟩ := (RT4.below B45).pos (by omega)
      obtain ⟨ob, of, rfl, hob, hoc⟩ := (RO4.below B45).pos (by omega)
      have hgp : gb < w4.heap.size := by
        obtain ⟨b', o', e', hb', _⟩ := RG4.pos (by omega)
        injection e' with e'; injection e' with e1; omega
      have htp : tb < w4.heap.size := by
        obtain ⟨b', o', e', hb', _⟩ := RT4.pos (by omega)
        injection e' with e'; injection e' with e1; omega
      have hop : ob < w4.heap.size := by
        obtain ⟨b', o', e', hb', _⟩ := RO4.pos (by omega)
        injection e' with e'; injection e' with e1; omega
      have hD4 := D4.size
      have g0 : (w4.alloc (.cells #[.int .i64 b.limit, .int .i64 b.rest, .int .i64 b.state, .int .i64 b.fails, .int .i64 b.since] 25)).cell? ⟨gb, gf, none⟩ = some (.bool (G 0)) := hgc 0 (by omega)
      have t0 : (w4.alloc (.cells #[.int .i64 b.limit, .int .i64 b.rest, .int .i64 b.state, .int .i64 b.fails, .int .i64 b.since] 25)).cell? ⟨tb, tf, none⟩ = some (.int .i64 (T 0)) := htc 0 (by omega)
      have o0 : (w4.alloc (.cells #[.int .i64 b.limit, .int .i64 b.rest, .int .i64 b.state, .int .i64 b.fails, .int .i64 b.since] 25)).cell? ⟨ob, of, none⟩ = some (.int .i64 (stS b G T 0)) := hoc 0 (by omega)
      have HRG := Lib.hid (RG4.below B45)
      have HRT := Lib.hid (RT4.below B45)
      have HRO := Lib.hid (RO4.below B45)
      have e0 : (((n1 : Int) + 1) == 0) = false := by simp; omega
      obtain ⟨x0, x1, x2, x3, x4, _, _, _, _, _⟩ := blk5 X4
      clear RG4 RT4 RO4 RG1 RT1 RO RS3 X4 hgc htc hoc B45
      have hst := step_ok (G 0) HV.out HOK.out
      have HYV := Lib.hid hst.1
      have HYO := Lib.hid hst.2
      have HSH := Lib.hid (stS_shift b G T)
      have hS0 : stS b G T 0 = (stepB b (G 0) (T 0)).state := rfl
      have h1 := (okTo_spec.1 HOK.out).1 0 (by omega)
      have hti : timedB b (T 0) = true := by unfold timedB; rw [HV.out, inB_mk h1]; rfl
      rw [hS0] at o0
      clear hst hS0
      go_wp2
      have hp0 := (Array.getElem?_eq_some_iff.1 HX5.out).1
      have hp7 := (Array.getElem?_eq_some_iff.1 HN5.out).1
      generalize (w4.alloc (.cells #[.int .i64 b.limit, .int .i64 b.rest, .int .i64 b.state, .int .i64 b.fails, .int .i64 b.since] 25)) = w5 at *
      generalize w0.heap.size = p0 at *
      generalize w4.heap.size = p7 at *
      clear x0 x1 x2 x3 x4 HX1
      obtain ⟨x0, x1, x2, x3, x4, _, _, _, _, _⟩ := blk5 HX5.out
      generalize hg : G 0 = good at *
      generalize ht : T 0 = t at *
      have HGG := Lib.hid hg
      have HTT := Lib.hid ht
      clear hg ht
      have m1 : ¬ p0 = w5.heap.size := by omega
      have m2 : ¬ w5.heap.size = p0 := by omega
      have m3 : ¬ tb = w5.heap.size := by omega
      have m4 : ¬ w5.heap.size = tb := by omega
      have V8 := fun w => implBeginCall_calls b t w
      go_cut [8, 9] (fun s8 s9 wx => MadeB w5 (beginCallB b t) (callB b t) s8 s9 wx)
      case first =>
        generalize beginCallB b t = z at *
        generalize callB b t = ok at *
        go_region_held3 (fun W => W.cell? ⟨p0, 0, none⟩ = some (.int .i64 b.limit) ∧ W.cell? ⟨p0, 1, none⟩ = some (.int .i64 b.rest) ∧ W.cell? ⟨p0, 2, none⟩ = some (.int .i64 b.state) ∧ W.cell? ⟨p0, 3, none⟩ = some (.int .i64 b.fails) ∧ W.cell? ⟨p0, 4, none⟩ = some (.int .i64 b.since) ∧ W.cell? ⟨tb, tf, none⟩ = some (.int .i64 t)) (go_keep)
          (first | (go_at_call 27; refine (V8 _).mono ?_; rintro e w6 ⟨rfl, hb6⟩; (first | (have hB6 : Below w5.heap.size w5 w6 := (below_drew (Below.refl _ _)).trans (hb6.mono (Nat.le_refl _))) | (have hB6 : Below w5.heap.size w5 w6 := (below_drew ((Below.refl w5.heap.size w5).alloc (Nat.le_refl _) _)).trans (hb6.mono (by simp)); have Z6 := keepBel hb6 (show ((w5.alloc (.cells #[.int .i64 0, .int .i64 0, .int .i64 0, .int .i64 0, .int .i64 0] 25)).drew).heap[w5.heap.size]? = _ from heap_alloc_new w5 _); obtain ⟨_, _, _, _, _, v0, v1, v2, v3, v4⟩ := blk5 Z6; obtain ⟨u0, u1, u2, u3, u4, _, _, _, _, _⟩ := blk5 Z6)); have hs6 := hB6.size; obtain ⟨y0, y1, y2, y3, y4, _, _, _, _, _⟩ := blk5 (keepBel hB6 HX5.out); have y5 := (hB6.cell (p := ⟨tb, tf, none⟩) htb).trans t0; have n1' : ¬ p0 = w6.heap.size := (by omega); have n2' : ¬ w6.heap.size = p0 := (by omega); have n3' : ¬ tb = w6.heap.size := (by omega); have n4' : ¬ w6.heap.size = tb := (by omega)))
        all_goals
          go_wp2_with fail
          go_meet
        · exact madeB_new hB6
        · exact madeB_set hB6 Z6
      case rest =>
        obtain ⟨w8, rfl⟩ : ∃ w8 : World, w8 = wc := ⟨_, rfl⟩
        obtain ⟨q8, rfl, rfl, hq8, hql8, hB8⟩ := hcut
        clear x0 x1 x2 x3 x4 V8 m1 m2 m3 m4
        cases hl : letsB b t
        · have hy : stepB b good t = b := by simp [stepB, hl]
          rw [hy] at HYV HYO HSH o0
          have hcb : callB b t = false := by simp [callB, hl]
          rw [hcb]
          clear hy hcb hl hti hq8
          go_wp2
          have HN := Lib.hid (keepBel hB8 HN5.out)
          have RGw := Lib.hid (HRG.out.below hB8)
          have RTw := Lib.hid (HRT.out.below hB8)
          have ROw := Lib.hid (HRO.out.below hB8)
          have o0w := (hB8.cell (p := ⟨ob, of, none⟩) hob).trans o0
          have hobw := Nat.lt_of_lt_of_le hob hB8.size
          have Dw := D5.trans (hB8.mono D5.size)
          clear g0 t0 o0 HRG HRT HRO hgb htb hob
          have I : ∀ ag cg at' ct w, RdB w ag n1 cg (fun i => G (1 + i)) → RdI w at' n1 ct (fun i => T (1 + i)) → Calls Try.prog 36 #[.agg #[.int .i64 b.limit, .int .i64 b.rest, .int .i64 b.state, .int .i64 b.fails, .int .i64 b.since], .slice ag n1 cg, .slice at' n1 ct] w (PathF w n1 (fun i => stS b G T (1 + i))) := fun ag cg at' ct w hG hT => by
            have := implPath_yes HYV.out (by omega) HYO.out hG hT
            rw [HSH.out] at this
            exact this
          have HBD := Lib.hid (show Below w8.heap.size w8 w8.drew from below_drew (Below.refl _ _))
          obtain ⟨x0, x1, x2, x3, x4, _, _, _, _, _⟩ := blk5 HN.out
          rcases Nat.eq_zero_or_pos n1 with rfl | hpos
          · have HI := Lib.hid I
            by_cases c1 : cg = 1 <;> by_cases c2 : ct = 1 <;> by_cases c3 : co = 1
            all_goals
              try subst c1
              try subst c2
              try subst c3
              have I := HI.out
              go_region_held3 (fun W => W.cell? ⟨p7, 0, none⟩ = some (.int .i64 b.limit) ∧ W.cell? ⟨p7, 1, none⟩ = some (.int .i64 b.rest) ∧ W.cell? ⟨p7, 2, none⟩ = some (.int .i64 b.state) ∧ W.cell? ⟨p7, 3, none⟩ = some (.int .i64 b.fails) ∧ W.cell? ⟨p7, 4, none⟩ = some (.int .i64 b.since) ∧ W.cell? ⟨ob, of, none⟩ = some (.int .i64 b.state)) (go_keep)
                (first
                  | (go_at_call 36; refine (I _ _ _ _ _ (Rd.below (Rd0 (by first | exact Nat.zero_le _ | exact Nat.le_trans (Nat.sub_le _ _) hG5)) HBD.out) (Rd.below (Rd0 (by first | exact Nat.zero_le _ | exact Nat.le_trans (Nat.sub_le _ _) hT5)) HBD.out)).mono ?_; rintro e w15 ⟨a15, c15, rfl, RI15, hb15⟩; have hB15 : Below w8.heap.size w8 w15 := HBD.out.trans (hb15.mono (Nat.le_refl _)); obtain ⟨r0, r1, r2, r3, r4, _, _, _, _, _⟩ := blk5 (keepBel hB15 HN.out); have r5 := (hB15.cell (p := ⟨ob, of, none⟩) hobw).trans o0w)
                  | (go_at_call 43; refine (equalInts_calls _ _ _ _ _ _ _ RI15 (Rd.below (Rd0 (by first | exact Nat.zero_le _ | exact Nat.le_trans (Nat.sub_le _ _) hO5)) hB15)).mono ?_; rintro e w16 ⟨rfl, hb16⟩; have hB16 : Below w8.heap.size w8 w16 := hB15.trans (hb16.mono hB15.size); obtain ⟨k0, k1, k2, k3, k4, _, _, _, _, _⟩ := blk5 (keepBel hB16 HN.out); have k5 := (hB16.cell (p := ⟨ob, of, none⟩) hobw).trans o0w))
              go_wp2
              go_ret
              exact ⟨rfl, Dw.trans (hB16.mono Dw.size)⟩
          · have j0 : (1 : Int) ≤ (n1 : Int) + 1 := by omega
            have j1 : (n1 : Int) + 1 ≤ (cg : Int) := by omega
            have j2 : (n1 : Int) + 1 ≤ (ct : Int) := by omega
            have j3 : (n1 : Int) + 1 ≤ (co : Int) := by omega
            have c1 : ¬ cg = 1 := by omega
            have c2 : ¬ ct = 1 := by omega
            have c3 : ¬ co = 1 := by omega
            go_region_held3 (fun W => W.cell? ⟨p7, 0, none⟩ = some (.int .i64 b.limit) ∧ W.cell? ⟨p7, 1, none⟩ = some (.int .i64 b.rest) ∧ W.cell? ⟨p7, 2, none⟩ = some (.int .i64 b.state) ∧ W.cell? ⟨p7, 3, none⟩ = some (.int .i64 b.fails) ∧ W.cell? ⟨p7, 4, none⟩ = some (.int .i64 b.since) ∧ W.cell? ⟨ob, of, none⟩ = some (.int .i64 b.state)) (go_keep)
              (first
                | (go_at_call 36; refine (I _ _ _ _ _ (Rd.below (RdB_drop1 RGw.out (by omega)) HBD.out) (Rd.below (RdI_drop1 RTw.out (by omega)) HBD.out)).mono ?_; rintro e w15 ⟨a15, c15, rfl, RI15, hb15⟩; have hB15 : Below w8.heap.size w8 w15 := HBD.out.trans (hb15.mono (Nat.le_refl _)); obtain ⟨r0, r1, r2, r3, r4, _, _, _, _, _⟩ := blk5 (keepBel hB15 HN.out); have r5 := (hB15.cell (p := ⟨ob, of, none⟩) hobw).trans o0w)
                | (go_at_call 43; refine (equalInts_calls _ _ _ _ _ _ _ RI15 (Rd.below (RdI_drop1 ROw.out (by omega)) hB15)).mono ?_; rintro e w16 ⟨rfl, hb16⟩; have hB16 : Below w8.heap.size w8 w16 := hB15.trans (hb16.mono hB15.size); obtain ⟨k0, k1, k2, k3, k4, _, _, _, _, _⟩ := blk5 (keepBel hB16 HN.out); have k5 := (hB16.cell (p := ⟨ob, of, none⟩) hobw).trans o0w))
            go_wp2
            go_ret
            exact ⟨rfl, Dw.trans (hB16.mono Dw.size)⟩
        · have hcb : callB b t = true := by simp [callB, hl, hti]
          have hcz : beginCallB b t = beginB b t := by simp [beginCallB, hcb]
          have hy : stepB b good t = endB (beginB b t) good t := by simp [stepB, hl]
          rw [hcz] at hq8
          rw [hcb]
          have hbt := begin_facts' (t := t) HV.out h1.1 h1.2
          have hzf := vB_facts hbt.1
          have hz2 : timedB (beginB b t) t = true := by unfold timedB; rw [hbt.1, inB_mk ⟨hbt.2, h1.2⟩]; rfl
          have hez : endCallB (beginB b t) good t = endB (beginB b t) good t := by simp [endCallB, hz2]
          have VE := fun w => implEndCall_calls (beginB b t) good t w
          rw [hez, hz2, ← hy] at VE
          clear hcb hcz hl hez hz2 hy hti hbt hzf
          generalize beginB b t = z at *
          generalize stepB b good t = y at *
          have HN8 := Lib.hid (keepBel hB8 HN5.out)
          have HQ8 := Lib.hid hq8
          have g8 := (hB8.cell (p := ⟨gb, gf, none⟩) hgb).trans g0
          have t8 := (hB8.cell (p := ⟨tb, tf, none⟩) htb).trans t0
          have o8 := (hB8.cell (p := ⟨ob, of, none⟩) hob).trans o0
          have hs8 := hB8.size
          have hgb8 := Nat.lt_of_lt_of_le hgb hs8
          have htb8 := Nat.lt_of_lt_of_le htb hs8
          have hob8 := Nat.lt_of_lt_of_le hob hs8
          have hp78 := Nat.lt_of_lt_of_le hp7 hs8
          have hq88 := (Array.getElem?_eq_some_iff.1 hq8).1
          have D8 := D5.trans (hB8.mono D5.size)
          have RG8 := Lib.hid (HRG.out.below hB8)
          have RT8 := Lib.hid (HRT.out.below hB8)
          have RO8 := Lib.hid (HRO.out.below hB8)
          obtain ⟨x0, x1, x2, x3, x4, _, _, _, _, _⟩ := blk5 hq8
          clear hq8 g0 t0 o0 HRG HRT HRO hB8
          have m1 : ¬ q8 = w8.heap.size := by omega
          have m2 : ¬ w8.heap.size = q8 := by omega
          have m3 : ¬ tb = w8.heap.size := by omega
          have m4 : ¬ w8.heap.size = tb := by omega
          have m5 : ¬ gb = w8.heap.size := by omega
          have m6 : ¬ w8.heap.size = gb := by omega
          go_wp2
          go_cut [10, 11] (fun s10 s11 wx => MadeB w8 y true s10 s11 wx)
          case first =>
            go_region_held3 (fun W => W.cell? ⟨q8, 0, none⟩ = some (.int .i64 z.limit) ∧ W.cell? ⟨q8, 1, none⟩ = some (.int .i64 z.rest) ∧ W.cell? ⟨q8, 2, none⟩ = some (.int .i64 z.state) ∧ W.cell? ⟨q8, 3, none⟩ = some (.int .i64 z.fails) ∧ W.cell? ⟨q8, 4, none⟩ = some (.int .i64 z.since) ∧ W.cell? ⟨tb, tf, none⟩ = some (.int .i64 t) ∧ W.cell? ⟨gb, gf, none⟩ = some (.bool good)) (go_keep)
              (first | (go_at_call 30; refine (VE _).mono ?_; rintro e w6 ⟨rfl, hb6⟩; (first | (have hB6 : Below w8.heap.size w8 w6 := (below_drew (Below.refl _ _)).trans (hb6.mono (Nat.le_refl _))) | (have hB6 : Below w8.heap.size w8 w6 := (below_drew ((Below.refl w8.heap.size w8).alloc (Nat.le_refl _) _)).trans (hb6.mono (by simp)); have Z6 := keepBel hb6 (show ((w8.alloc (.cells #[.int .i64 0, .int .i64 0, .int .i64 0, .int .i64 0, .int .i64 0] 25)).drew).heap[w8.heap.size]? = _ from heap_alloc_new w8 _); obtain ⟨_, _, _, _, _, v0, v1, v2, v3, v4⟩ := blk5 Z6; obtain ⟨u0, u1, u2, u3, u4, _, _, _, _, _⟩ := blk5 Z6)); have hs6 := hB6.size; obtain ⟨y0, y1, y2, y3, y4, _, _, _, _, _⟩ := blk5 (keepBel hB6 HQ8.out); have y5 := (hB6.cell (p := ⟨tb, tf, none⟩) htb8).trans t8; have y6 := (hB6.cell (p := ⟨gb, gf, none⟩) hgb8).trans g8; have n1' : ¬ q8 = w6.heap.size := (by omega); have n2' : ¬ w6.heap.size = q8 := (by omega); have n3' : ¬ tb = w6.heap.size := (by omega); have n4' : ¬ w6.heap.size = tb := (by omega); have n5' : ¬ gb = w6.heap.size := (by omega); have n6' : ¬ w6.heap.size = gb := (by omega)))
            all_goals
              go_wp2_with fail
              go_meet
            · exact madeB_new hB6
            · exact madeB_set hB6 Z6
          case rest =>
            obtain ⟨w10, rfl⟩ : ∃ w10 : World, w10 = wc := ⟨_, rfl⟩
            obtain ⟨q10, rfl, rfl, hq10, hql10, hB10⟩ := hcut
            clear x0 x1 x2 x3 x4 VE m1 m2 m3 m4 m5 m6 g8 t8 HQ8 hq88
            have X7 := keepBel hB10 HN8.out
            have hs10 := hB10.size
            have G14 := set5_grown w10 p7 (.int .i64 y.limit) (.int .i64 y.rest) (.int .i64 y.state) (.int .i64 y.fails) (.int .i64 y.since)
            have D10 := D8.trans (hB10.mono D8.size)
            have HN := Lib.hid (set5_same X7 (.int .i64 y.limit) (.int .i64 y.rest) (.int .i64 y.state) (.int .i64 y.fails) (.int .i64 y.since))
            have RGw := Lib.hid (Rd.grown (RG8.out.below hB10) G14 (fun b off x hx => by injection hx with hx; injection hx with e1; simp; omega))
            have RTw := Lib.hid (Rd.grown (RT8.out.below hB10) G14 (fun b off x hx => by injection hx with hx; injection hx with e1; simp; omega))
            have ROw := Lib.hid (Rd.grown (RO8.out.below hB10) G14 (fun b off x hx => by injection hx with hx; injection hx with e1; simp; omega))
            have o0w := G14.cell ((hB10.cell (p := ⟨ob, of, none⟩) hob8).trans o8) (by simp; omega)
            have hobw := Nat.lt_of_lt_of_le (Nat.lt_of_lt_of_le hob8 hs10) G14.size
            have Dw := D10.grown G14 (by have := D10.size; omega) (fun g hg => by simp at hg; omega)
            obtain ⟨x0, x1, x2, x3, x4, _, _, _, _, _⟩ := blk5 hq10
            obtain ⟨y0, y1, y2, y3, y4, v0, v1, v2, v3, v4⟩ := blk5 X7
            clear X7 G14 D10 RG8 RT8 RO8 o8 hq10 hgb8 htb8 hob8
            go_wp2
            clear x0 x1 x2 x3 x4 y0 y1 y2 y3 y4 v0 v1 v2 v3 v4
            generalize (((((w10.setCell ⟨p7, 0, none⟩ (.int .i64 y.limit)).setCell ⟨p7, 1, none⟩ (.int .i64 y.rest)).setCell ⟨p7, 2, none⟩ (.int .i64 y.state)).setCell ⟨p7, 3, none⟩ (.int .i64 y.fails)).setCell ⟨p7, 4, none⟩ (.int .i64 y.since)) = w14 at *
            have I : ∀ ag cg at' ct w, RdB w ag n1 cg (fun i => G (1 + i)) → RdI w at' n1 ct (fun i => T (1 + i)) → Calls Try.prog 36 #[.agg #[.int .i64 y.limit, .int .i64 y.rest, .int .i64 y.state, .int .i64 y.fails, .int .i64 y.since], .slice ag n1 cg, .slice at' n1 ct] w (PathF w n1 (fun i => stS b G T (1 + i))) := fun ag cg at' ct w hG hT => by
              have := implPath_yes HYV.out (by omega) HYO.out hG hT
              rw [HSH.out] at this
              exact this
            have HBD := Lib.hid (show Below w14.heap.size w14 w14.drew from below_drew (Below.refl _ _))
            obtain ⟨x0, x1, x2, x3, x4, _, _, _, _, _⟩ := blk5 HN.out
            rcases Nat.eq_zero_or_pos n1 with rfl | hpos
            · have HI := Lib.hid I
              by_cases c1 : cg = 1 <;> by_cases c2 : ct = 1 <;> by_cases c3 : co = 1
              all_goals
                try subst c1
                try subst c2
                try subst c3
                have I := HI.out
                go_region_held3 (fun W => W.cell? ⟨p7, 0, none⟩ = some (.int .i64 y.limit) ∧ W.cell? ⟨p7, 1, none⟩ = some (.int .i64 y.rest) ∧ W.cell? ⟨p7, 2, none⟩ = some (.int .i64 y.state) ∧ W.cell? ⟨p7, 3, none⟩ = some (.int .i64 y.fails) ∧ W.cell? ⟨p7, 4, none⟩ = some (.int .i64 y.since) ∧ W.cell? ⟨ob, of, none⟩ = some (.int .i64 y.state)) (go_keep)
                  (first
                    | (go_at_call 36; refine (I _ _ _ _ _ (Rd.below (Rd0 (by first | exact Nat.zero_le _ | exact Nat.le_trans (Nat.sub_le _ _) hG5)) HBD.out) (Rd.below (Rd0 (by first | exact Nat.zero_le _ | exact Nat.le_trans (Nat.sub_le _ _) hT5)) HBD.out)).mono ?_; rintro e w15 ⟨a15, c15, rfl, RI15, hb15⟩; have hB15 : Below w14.heap.size w14 w15 := HBD.out.trans (hb15.mono (Nat.le_refl _)); obtain ⟨r0, r1, r2, r3, r4, _, _, _, _, _⟩ := blk5 (keepBel hB15 HN.out); have r5 := (hB15.cell (p := ⟨ob, of, none⟩) hobw).trans o0w)
                    | (go_at_call 43; refine (equalInts_calls _ _ _ _ _ _ _ RI15 (Rd.below (Rd0 (by first | exact Nat.zero_le _ | exact Nat.le_trans (Nat.sub_le _ _) hO5)) hB15)).mono ?_; rintro e w16 ⟨rfl, hb16⟩; have hB16 : Below w14.heap.size w14 w16 := hB15.trans (hb16.mono hB15.size); obtain ⟨k0, k1, k2, k3, k4, _, _, _, _, _⟩ := blk5 (keepBel hB16 HN.out); have k5 := (hB16.cell (p := ⟨ob, of, none⟩) hobw).trans o0w))
                go_wp2
                go_ret
                exact ⟨rfl, Dw.trans (hB16.mono Dw.size)⟩
            · have j0 : (1 : Int) ≤ (n1 : Int) + 1 := by omega
              have j1 : (n1 : Int) + 1 ≤ (cg : Int) := by omega
              have j2 : (n1 : Int) + 1 ≤ (ct : Int) := by omega
              have j3 : (n1 : Int) + 1 ≤ (co : Int) := by omega
              have c1 : ¬ cg = 1 := by omega
              have c2 : ¬ ct = 1 := by omega
              have c3 : ¬ co = 1 := by omega
              go_region_held3 (fun W => W.cell? ⟨p7, 0, none⟩ = some (.int .i64 y.limit) ∧ W.cell? ⟨p7, 1, none⟩ = some (.int .i64 y.rest) ∧ W.cell? ⟨p7, 2, none⟩ = some (.int .i64 y.state) ∧ W.cell? ⟨p7, 3, none⟩ = some (.int .i64 y.fails) ∧ W.cell? ⟨p7, 4, none⟩ = some (.int .i64 y.since) ∧ W.cell? ⟨ob, of, none⟩ = some (.int .i64 y.state)) (go_keep)
                (first
                  | (go_at_call 36; refine (I _ _ _ _ _ (Rd.below (RdB_drop1 RGw.out (by omega)) HBD.out) (Rd.below (RdI_drop1 RTw.out (by omega)) HBD.out)).mono ?_; rintro e w15 ⟨a15, c15, rfl, RI15, hb15⟩; have hB15 : Below w14.heap.size w14 w15 := HBD.out.trans (hb15.mono (Nat.le_refl _)); obtain ⟨r0, r1, r2, r3, r4, _, _, _, _, _⟩ := blk5 (keepBel hB15 HN.out); have r5 := (hB15.cell (p := ⟨ob, of, none⟩) hobw).trans o0w)
                  | (go_at_call 43; refine (equalInts_calls _ _ _ _ _ _ _ RI15 (Rd.below (RdI_drop1 ROw.out (by omega)) hB15)).mono ?_; rintro e w16 ⟨rfl, hb16⟩; have hB16 : Below w14.heap.size w14 w16 := hB15.trans (hb16.mono hB15.size); obtain ⟨k0, k1, k2, k3, k4, _, _, _, _, _⟩ := blk5 (keepBel hB16 HN.out); have k5 := (hB16.cell (p := ⟨ob, of, none⟩) hobw).trans o0w))
              go_wp2
              go_ret
              exact ⟨rfl, Dw.trans (hB16.mono Dw.size)⟩
end Go.Proofs.Ytcgnaokpdlbhbaa
