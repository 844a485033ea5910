/- The walk of FnEndCallOpen. -/
import Derived.Test.YtcgnaokpdlbhbaaBreakerLaws4
namespace Go.Proofs.Ytcgnaokpdlbhbaa
open Go.ChangeShapes Go.WideShapes Go.ChangeAt Go.RowKit
set_option linter.unusedVariables false

theorem set5_same {w : World} {F : Nat} {a b c d e : Value} {t : TypeId} (h : w.heap[F]? = some (.cells #[a, b, c, d, e] t (0, 0))) (a' b' c' d' e' : Value) :
    (((((w.setCell ⟨F, 0, none⟩ a').setCell ⟨F, 1, none⟩ b').setCell ⟨F, 2, none⟩ c').setCell ⟨F, 3, none⟩ d').setCell ⟨F, 4, none⟩ e').heap[F]? = some (.cells #[a', b', c', d', e'] t (0, 0)) := by
  have h1 := heap_setCell_same w F 0 _ _ a' h
  have h2 := heap_setCell_same _ F 1 _ _ b' h1
  have h3 := heap_setCell_same _ F 2 _ _ c' h2
  have h4 := heap_setCell_same _ F 3 _ _ d' h3
  exact heap_setCell_same _ F 4 _ _ e' h4
theorem set5_other {w : World} {F L : Nat} {o : Obj} (h : w.heap[L]? = some o) (hne : L ≠ F) (a' b' c' d' e' : Value) :
    (((((w.setCell ⟨F, 0, none⟩ a').setCell ⟨F, 1, none⟩ b').setCell ⟨F, 2, none⟩ c').setCell ⟨F, 3, none⟩ d').setCell ⟨F, 4, none⟩ e').heap[L]? = some o :=
  keepS (keepS (keepS (keepS (keepS h hne _) hne _) hne _) hne _) hne _
theorem keepBel {w w' : World} {L : Nat} {o : Obj} (hb : Below w.heap.size w w') (h : w.heap[L]? = some o) : w'.heap[L]? = some o :=
  (hb.block L (Array.getElem?_eq_some_iff.1 h).1).trans h

/-- The breaker after k bad calls, from none. -/
def freshB (b : Bk) (t : Int) (k : Nat) : Bk := if (k : Int) < b.limit then ⟨b.limit, b.rest, 0, k, b.since⟩ else ⟨b.limit, b.rest, 1, 0, t⟩
theorem fresh_step {b : Bk} {t : Int} (h : timedB b t = true) (k : Nat) (hk : (k : Int) < b.limit) : timedB (freshB b t k) t = true ∧ endCallB (freshB b t k) false t = freshB b t (k + 1) := by
  have hf := timed_facts h
  have hv := vB_facts hf.1
  have e : freshB b t k = ⟨b.limit, b.rest, 0, k, b.since⟩ := by simp [freshB, hk]
  have ht : timedB (freshB b t k) t = true := by
    rw [e]
    unfold timedB
    rw [vB_mk (by simp; omega), inB_mk (by simp; omega)]
    rfl
  refine ⟨ht, ?_⟩
  unfold endCallB
  rw [ht, e]
  simp only [if_true, endB]
  by_cases hl : (k : Int) + 1 = b.limit
  · simp [hl, freshB, turnB]
  · simp [hl, freshB]; omega

set_option maxHeartbeats 800000 in
theorem fnEndCallOpen_walk (ao : Option Addr) (n cap : Nat) (c : Nat → Int) (w : World) (h : Code8 w ao n cap c) : Calls Try.prog 12 #[.slice ao n cap] w (SaysTrue w) := by
  have hcap : n ≤ 9223372036854775807 := by have := h.1; have := h.2.1; unfold maxLen at this; omega
  by_cases hn : 1048576 < n
  · go_enter Try.func12, Try.ntmps12
    go_wp2
    go_ret
    exact ⟨rfl, Below.refl _ _⟩
  · go_enter Try.func12, Try.ntmps12
    go_wp2_with fail
    refine (drawEndCall_calls ao n cap c w h).mono ?_
    rintro e w1 ⟨b, g, t, rfl, hb, ht1, ht2, B1⟩
    have z1 := B1.size
    clear hb
    cases hc : timedB b t
    · have he : endCallB b g t = zeroB := by simp [endCallB, hc]
      have I : ∀ w, Calls Try.prog 30 #[.agg #[.int .i64 b.limit, .int .i64 b.rest, .int .i64 b.state, .int .i64 b.fails, .int .i64 b.since], .bool g, .int .i64 t] w (RetBk2 w zeroB false) := fun w => by have := implEndCall_calls b g t w; rwa [hc, he] at this
      have S : ∀ w, Calls Try.prog 29 #[.agg #[.int .i64 b.limit, .int .i64 b.rest, .int .i64 b.state, .int .i64 b.fails, .int .i64 b.since], .bool g, .int .i64 t] w (RetBk2 w zeroB false) := fun w => by have := specEndCall_calls b g t w; rwa [hc, he] at this
      have I := Lib.hid I
      have S := Lib.hid S
      clear he hc
      go_wp2_with fail
      refine (I.out _).mono ?_
      rintro e w2 ⟨rfl, hb2⟩
      have s2 := hb2.size
      try simp at s2
      have B2 : Below w.heap.size w w2 := Below.trans (by go_grown) (hb2.mono (by first | omega | (simp; done) | (simp; omega)))
      have z2 := B2.size
      obtain ⟨hc2, hf2⟩ := bcell hb2
      have y2_0 : w1.heap.size < w2.heap.size := by omega
      go_wp2_with fail
      refine (S.out _).mono ?_
      rintro e w3 ⟨rfl, hb3⟩
      have s3 := hb3.size
      try simp at s3
      have B3 : Below w.heap.size w w3 := Below.trans (by go_grown) (hb3.mono (by first | omega | (simp; done) | (simp; omega)))
      have z3 := B3.size
      obtain ⟨hc3, hf3⟩ := bcell hb3
      have y3_0 : w1.heap.size < w3.heap.size := by omega
      have y3_1 : w2.heap.size < w3.heap.size := by omega
      go_wp2
      go_ret
      exact ⟨rfl, by go_grown⟩
    · have he : endCallB b g t = endB b g t := by simp [endCallB, hc]
      have I : ∀ w, Calls Try.prog 30 #[.agg #[.int .i64 b.limit, .int .i64 b.rest, .int .i64 b.state, .int .i64 b.fails, .int .i64 b.since], .bool g, .int .i64 t] w (RetBk2 w (endB b g t) true) := fun w => by have := implEndCall_calls b g t w; rwa [hc, he] at this
      have S : ∀ w, Calls Try.prog 29 #[.agg #[.int .i64 b.limit, .int .i64 b.rest, .int .i64 b.state, .int .i64 b.fails, .int .i64 b.since], .bool g, .int .i64 t] w (RetBk2 w (endB b g t) true) := fun w => by have := specEndCall_calls b g t w; rwa [hc, he] at this
      have I := Lib.hid I
      have S := Lib.hid S
      have hv := vB_facts (timed_facts hc).1
      have ho : b.state = 1 → endB b g t = b := fun hs => by simp [endB, hs]
      generalize endB b g t = o at I S ho
      clear he
      have HC := Lib.hid hc
      have HO := Lib.hid ho
      clear hc ho
      have f0 : freshB b t 0 = ⟨b.limit, b.rest, 0, 0, b.since⟩ := by simp [freshB]; omega
      have F0 := Lib.hid f0
      clear f0
      go_wp2_with fail
      refine (I.out _).mono ?_
      rintro e w2 ⟨rfl, hb2⟩
      have s2 := hb2.size
      try simp at s2
      have B2 : Below w.heap.size w w2 := Below.trans (by go_grown) (hb2.mono (by first | omega | (simp; done) | (simp; omega)))
      have z2 := B2.size
      obtain ⟨hc2, hf2⟩ := bcell hb2
      have y2_0 : w1.heap.size < w2.heap.size := by omega
      go_wp2_with fail
      refine (S.out _).mono ?_
      rintro e w3 ⟨rfl, hb3⟩
      have s3 := hb3.size
      try simp at s3
      have B3 : Below w.heap.size w w3 := Below.trans (by go_grown) (hb3.mono (by first | omega | (simp; done) | (simp; omega)))
      have z3 := B3.size
      obtain ⟨hc3, hf3⟩ := bcell hb3
      have y3_0 : w1.heap.size < w3.heap.size := by omega
      have y3_1 : w2.heap.size < w3.heap.size := by omega
      go_wp2
      go_loopw [11] (fun i wr => ∃ k : Nat, (k : Int) ≤ b.limit ∧ i = .int .i64 k ∧ wr.heap[w3.heap.size + 1]? = some (.cells #[.int .i64 ((freshB b t k)).limit, .int .i64 ((freshB b t k)).rest, .int .i64 ((freshB b t k)).state, .int .i64 ((freshB b t k)).fails, .int .i64 ((freshB b t k)).since] 25 (0, 0)) ∧ wr.heap[w1.heap.size]? = some (.cells #[.int .i64 b.limit, .int .i64 b.rest, .int .i64 b.state, .int .i64 b.fails, .int .i64 b.since] 25 (0, 0)) ∧ wr.heap[w2.heap.size]? = some (.cells #[.int .i64 o.limit, .int .i64 o.rest, .int .i64 o.state, .int .i64 o.fails, .int .i64 o.since] 25 (0, 0)) ∧ Below w.heap.size w wr)
        (fun i _ => (b.limit - intOf i).toNat)
      case atStart =>
        have hb0 := F0.out
        refine ⟨0, by omega, rfl, ?_, ?_, ?_, ?_⟩
        · rw [hb0]
          have := heap_alloc_new (w3.alloc (.cells #[.int .i64 o.limit, .int .i64 o.rest, .int .i64 o.state, .int .i64 o.fails, .int .i64 o.since] 25)) (.cells #[.int .i64 b.limit, .int .i64 b.rest, .int .i64 0, .int .i64 0, .int .i64 b.since] 25)
          simpa using this
        · exact keepA (keepA (keepBel hb3 (keepA (keepBel hb2 (heap_alloc_new w1 _)) _)) _) _
        · exact keepA (keepA (keepBel hb3 (heap_alloc_new w2 _)) _) _
        · go_grown
      case round =>
        obtain ⟨k, hk, rfl, HF, HB, HOo, hB⟩ := hrel
        have hF := HF
        have hBb := HB
        have hOo := HOo
        have HF := Lib.hid HF
        have HB := Lib.hid HB
        have HOo := Lib.hid HOo
        obtain ⟨a0, a1, a2, a3, a4, z0, z1', z2', z3', z4⟩ := blk5 hF
        obtain ⟨b0, b1, b2, b3, b4, _, _, _, _, _⟩ := blk5 hBb
        obtain ⟨o0, o1, o2, o3, o4, _, _, _, _, _⟩ := blk5 hOo
        have hzw := hB.size
        clear hF hBb hOo
        by_cases hlt : (k : Int) < b.limit
        · obtain ⟨hT, hE⟩ := fresh_step HC.out k hlt
          have st0 : (freshB b t k).state = 0 := by simp [freshB, hlt]
          have C : ∀ w, Calls Try.prog 30 #[.agg #[.int .i64 ((freshB b t k)).limit, .int .i64 ((freshB b t k)).rest, .int .i64 ((freshB b t k)).state, .int .i64 ((freshB b t k)).fails, .int .i64 ((freshB b t k)).since], .bool false, .int .i64 t] w (RetBk2 w (freshB b t (k + 1)) true) := fun w => by have := implEndCall_calls (freshB b t k) false t w; rwa [hE, hT] at this
          have C := Lib.hid C
          clear hT hE
          generalize hfk : freshB b t k = fk at C st0 HF a0 a1 a2 a3 a4
          generalize hfk1 : freshB b t (k + 1) = fk1 at C
          have HK1 := Lib.hid hfk1
          clear hfk hfk1
          have s0 : (fk.state != 0) = false := by simp [st0]
          go_wp2_with fail
          have CC := C.out wr
          rw [st0] at CC
          refine CC.mono ?_
          rintro e w5 ⟨rfl, hb5⟩
          clear CC C
          have HF5 := Lib.hid (keepBel hb5 HF.out)
          have HB5 := Lib.hid (keepBel hb5 HB.out)
          have HO5 := Lib.hid (keepBel hb5 HOo.out)
          have hB5 : Below w.heap.size w w5 := Below.trans (by go_grown) (hb5.mono (by first | omega | (simp; done) | (simp; omega)))
          have hlF := (Array.getElem?_eq_some_iff.1 HF5.out).1
          have n1 : ¬ w5.heap.size = w3.heap.size + 1 := by omega
          have n2 : ¬ w3.heap.size + 1 = w5.heap.size := by omega
          have m1 : w1.heap.size ≠ w3.heap.size + 1 := by omega
          have m2 : w2.heap.size ≠ w3.heap.size + 1 := by omega
          have hz5 := hB5.size
          clear a0 a1 a2 a3 a4 z0 z1' z2' z3' z4 b0 b1 b2 b3 b4 o0 o1 o2 o3 o4
          obtain ⟨a0, a1, a2, a3, a4, z0, z1', z2', z3', z4⟩ := blk5 HF5.out
          go_wp2
          go_roundw
          case rel =>
            refine ⟨k + 1, by omega, by go_num, ?_, ?_, ?_, ?_⟩
            · rw [HK1.out]; exact keepA (set5_same HF5.out _ _ _ _ _) _
            · exact keepA (set5_other HB5.out m1 _ _ _ _ _) _
            · exact keepA (set5_other HO5.out m2 _ _ _ _ _) _
            · go_grown
          case measure => simp [intOf]; omega
        · have hkl : (k : Int) = b.limit := by omega
          have e : freshB b t k = ⟨b.limit, b.rest, 1, 0, t⟩ := by simp [freshB, hlt]
          rw [e] at a0 a1 a2 a3 a4
          simp only at a0 a1 a2 a3 a4
          clear e hkl
          by_cases hs : b.state = 1
          · have hob := HO.out hs
            have k1 : (b.state == 1) = true := by simp [hs]
            have n1 : (b.state != 1) = false := by simp [hs]
            clear hs
            subst hob
            go_wp2
            go_ret
            exact ⟨ret_bool (by simp), hB⟩
          · have k1 : (b.state == 1) = false := by simp [hs]
            have n1 : (b.state != 1) = true := by simp [hs]
            clear hs
            go_wp2
            go_ret
            exact ⟨ret_bool (by simp), hB⟩
end Go.Proofs.Ytcgnaokpdlbhbaa
