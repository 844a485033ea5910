/- The walks of the three laws on GoodShare. -/
import Derived.Test.YtacdgddamphgnaaShare
import Derived.Test.YtacdgddamphgnaaToBools
import Derived.Test.YtacdgddamphgnaaChecks
namespace Go.Proofs.Ytacdgddamphgnaa
open Go.ChangeShapes Go.WideShapes Go.ChangeAt Go.RowKit
set_option linter.unusedVariables false

theorem fnExactGoodShare_walk (ao : Option Addr) (n cap : Nat) (L : Nat → Bool) (w : World) (h : RdB w ao n cap L) :
    Calls Try.prog 6 #[.slice ao n cap] w (SaysTrue w) := by
  have hlen := h.len
  by_cases hn : 1048576 < n
  · go_enter Try.func6, Try.ntmps6
    go_wp2
    go_ret
    exact ⟨rfl, Below.refl _ _⟩
  · go_enter Try.func6, Try.ntmps6
    go_wp2_with fail
    refine (toBoolS_calls ao n cap L w h (by omega)).mono ?_
    rintro e w1 ⟨v, rfl, a1, c1, rfl, R1, F1, B1⟩
    go_wp2_with fail
    refine (specGoodShare_calls _ _ _ _ _ R1).mono ?_
    rintro e w' ⟨rfl, rfl⟩
    go_wp2_with fail
    refine (toBoolS_calls ao n cap L w1 (h.below B1) (by omega)).mono ?_
    rintro e w2 ⟨v, rfl, a2, c2, rfl, R2, F2, B2⟩
    have B02 := B1.trans (B2.mono B1.size)
    go_wp2_with fail
    refine (implGoodShare_calls _ _ _ _ _ R2).mono ?_
    rintro e w' ⟨rfl, rfl⟩
    go_wp2_with fail
    refine (toBoolS_calls ao n cap L w2 (h.below B02) (by omega)).mono ?_
    rintro e w3 ⟨v, rfl, a3, c3, rfl, R3, F3, B3⟩
    have B03 := B02.trans (B3.mono B02.size)
    go_wp2_with fail
    refine (eqBoolS_calls _ _ _ _ _ _ _ (R2.below B3) R3).mono ?_
    rintro e w4 ⟨rfl, B4⟩
    have B04 := B03.trans (B4.mono B03.size)
    go_wp2
    go_ret
    exact ⟨rfl, B04⟩

/-- The drawn list, a list of checks like any other. -/
theorem drawGoodShare_calls (ao : Option Addr) (n cap : Nat) (c : Nat → Int) (w : World) (h : Code8 w ao n cap c) :
    Calls Try.prog 16 #[.slice ao n cap] w fun e w' =>
      ∃ v, e = .returned v ∧ ∃ (L : List Bool) (ao : Option Addr) (cap : Nat), v = .slice ao L.length cap ∧ L.length ≤ 13 ∧ RdB w' ao L.length cap (fun i => L.getD i false) ∧ (∀ b off x, ao = some ⟨b, off, x⟩ → w.heap.size ≤ b) ∧ Below w.heap.size w w' := by
  go_enter Try.func16, Try.ntmps16
  go_wp2_with fail
  refine (newReader1 ao n cap c w h).mono ?_
  rintro e w1 ⟨r, sl, rfl, R1, B1⟩
  go_wp2_with fail
  refine (someChecks_calls w1 R1 (by omega)).mono ?_
  rintro e w2 ⟨L, a2, c2, rfl, hL, R2, F2, R3, G2⟩
  have B2 := below_pick B1 B1.size R1 (Nat.le_refl _) G2
  have F2' : ∀ b off x, a2 = some ⟨b, off, x⟩ → w.heap.size ≤ b := fun b off x hx => by have := F2 b off x hx; have := B1.size; omega
  have F3 := Lib.hid F2'
  clear F2 F2'
  go_wp2
  go_ret
  exact ⟨_, rfl, L, a2, c2, rfl, hL, R2, F3.out, B2⟩

/-! ### The plain facts -/
theorem div_le_iff' {a n : Int} (hn : 0 < n) (c : Int) : a / n ≤ c ↔ a < (c + 1) * n := by
  rw [← Int.lt_add_one_iff, Int.ediv_lt_iff_lt_mul hn]
theorem goodShare_facts (n : Nat) (L : Nat → Bool) (hn : n ≤ 12) :
    0 ≤ goodShare n L ∧ goodShare n L ≤ 100 ∧ (goodShare n L = 100 ↔ cntB L n = n) ∧ (goodShare n L = 0 ↔ cntB L n = 0 ∧ 0 < n) := by
  have hc := cntB_le L n
  unfold goodShare
  rw [if_neg (by omega)]
  by_cases h0 : n = 0
  · subst h0; simp [cntB]
  · rw [if_neg h0]
    have hn' : n = 1 ∨ n = 2 ∨ n = 3 ∨ n = 4 ∨ n = 5 ∨ n = 6 ∨ n = 7 ∨ n = 8 ∨ n = 9 ∨ n = 10 ∨ n = 11 ∨ n = 12 := by omega
    generalize cntB L n = k at *
    rcases hn' with rfl | rfl | rfl | rfl | rfl | rfl | rfl | rfl | rfl | rfl | rfl | rfl <;> refine ⟨by omega, by omega, by omega, by omega⟩
/-- One result more. -/
theorem goodShare_more (n : Nat) (L M : Nat → Bool) (hn : n < 12) (hLM : ∀ i, i < n → M i = L i) :
    (M n = true → goodShare n L ≤ goodShare (n + 1) M) ∧ (M n = false → goodShare (n + 1) M ≤ goodShare n L) := by
  have hc := cntB_le L n
  have he : cntB M n = cntB L n := cntB_congr M L n hLM
  unfold goodShare
  rw [if_neg (by omega), if_neg (show ¬ 12 < n + 1 by omega), if_neg (show ¬ n + 1 = 0 by omega)]
  refine ⟨fun h => ?_, fun h => ?_⟩
  · rw [cntB_yes M n h, he]
    by_cases h0 : n = 0
    · subst h0; simp [cntB]
    · rw [if_neg h0]
      have hn' : n = 1 ∨ n = 2 ∨ n = 3 ∨ n = 4 ∨ n = 5 ∨ n = 6 ∨ n = 7 ∨ n = 8 ∨ n = 9 ∨ n = 10 ∨ n = 11 := by omega
      generalize cntB L n = k at *
      rcases hn' with rfl | rfl | rfl | rfl | rfl | rfl | rfl | rfl | rfl | rfl | rfl <;> omega
  · rw [cntB_no M n h, he]
    by_cases h0 : n = 0
    · subst h0; simp [cntB]
    · rw [if_neg h0]
      have hn' : n = 1 ∨ n = 2 ∨ n = 3 ∨ n = 4 ∨ n = 5 ∨ n = 6 ∨ n = 7 ∨ n = 8 ∨ n = 9 ∨ n = 10 ∨ n = 11 := by omega
      generalize cntB L n = k at *
      rcases hn' with rfl | rfl | rfl | rfl | rfl | rfl | rfl | rfl | rfl | rfl | rfl <;> omega

theorem fnGoodShare_walk (ao : Option Addr) (n cap : Nat) (c : Nat → Int) (w : World) (h : Code8 w ao n cap c) :
    Calls Try.prog 7 #[.slice ao n cap] w (SaysTrue w) := by
  have hcap : n ≤ 9223372036854775807 := by have := h.1; have := h.2.1; unfold maxLen at this; omega
  by_cases hn : 1048576 < n
  · go_enter Try.func7, Try.ntmps7
    go_wp2
    go_ret
    exact ⟨rfl, Below.refl _ _⟩
  · go_enter Try.func7, Try.ntmps7
    go_wp2_with fail
    refine (drawGoodShare_calls ao n cap c w h).mono ?_
    rintro e w1 ⟨v, rfl, L, a1, c1, rfl, hL, R1, F1, B1⟩
    clear F1
    generalize hM : (fun i => L.getD i false) = M at R1
    clear hM
    generalize L.length = m at hL R1 ⊢
    have I := Lib.hid (implGoodShare_calls a1 m c1 M w1 R1)
    have S := Lib.hid (specGoodShare_calls a1 m c1 M w1 R1)
    by_cases h12 : 12 < m
    · have e : goodShare m M = -1 := by simp [goodShare, h12]
      rw [e] at I S
      clear e
      go_wp2_with (first | (go_at_call 12; refine (S.out).mono ?_; rintro e w' ⟨rfl, rfl⟩) | (go_at_call 14; refine (I.out).mono ?_; rintro e w' ⟨rfl, rfl⟩))
      go_ret
      exact ⟨rfl, B1⟩
    · obtain ⟨f1, f2, f3, f4⟩ := goodShare_facts m M (by omega)
      have hcl := cntB_le M m
      generalize goodShare m M = g at I S f1 f2 f3 f4
      have F3 := Lib.hid f3
      have F4 := Lib.hid f4
      clear f3 f4
      go_wp2_with (first | (go_at_call 12; refine (S.out).mono ?_; rintro e w' ⟨rfl, rfl⟩) | (go_at_call 14; refine (I.out).mono ?_; rintro e w' ⟨rfl, rfl⟩))
      go_loop [5, 6] (fun t i => ∃ k : Nat, k ≤ m ∧ i = .int .i64 k ∧ t = .int .i64 (cntB M k)) (fun _ i => m - (intOf i).toNat)
      case atStart => exact ⟨0, Nat.zero_le _, rfl, rfl⟩
      case round =>
        obtain ⟨k, hk, rfl, rfl⟩ := hrel
        have hcl' := cntB_le M k
        by_cases hlt : k < m
        · obtain ⟨b, off, rfl, hb, hc⟩ := R1.pos (by omega)
          have hck := hc k hlt
          clear hc
          cases hL : M k
          · have e := cntB_no M k hL
            have E := Lib.hid e
            clear e
            go_wp2
            go_round
            case rel => exact ⟨k + 1, by omega, by go_num, by rw [E.out]⟩
            case measure => simp [intOf]; omega
          · have e := cntB_yes M k hL
            have E := Lib.hid e
            clear e
            go_wp2
            go_round
            case rel => exact ⟨k + 1, by omega, by go_num, by rw [E.out]; try go_num⟩
            case measure => simp [intOf]; omega
        · obtain rfl : k = m := by omega
          clear I S
          have q1 : (g == 100) = ((cntB M k : Int) == (k : Int)) := by
            have := F3.out
            rw [Bool.eq_iff_iff]; simp; omega
          generalize cntB M k = x at *
          have p1 : (g == 100) = true ↔ ((x : Int) == (k : Int)) = true := by rw [q1]
          have p2 := F4.out
          clear F3 F4 q1
          by_cases g1 : g = 100
          · subst g1
            have x1 : x = k := by simp at p1; omega
            subst x1
            clear p1
            by_cases k0 : 0 < x
            · have hx0 : ((x : Int) == 0) = false := by simp; omega
              clear p2
              go_wp2
              go_ret
              exact ⟨rfl, B1⟩
            · obtain rfl : x = 0 := by omega
              clear p2
              go_wp2
              go_ret
              exact ⟨rfl, B1⟩
          · have g1' : (g == 100) = false := by simp [g1]
            have x1 : ((x : Int) == (k : Int)) = false := by
              rw [← Bool.not_eq_true, ← p1]; simp [g1]
            have x1' : x ≠ k := by intro hh; subst hh; simp at x1
            clear p1
            by_cases g0 : g = 0
            · subst g0
              have := p2.1 rfl
              obtain ⟨rfl, hk0⟩ := this
              have hzk : ((0 : Int) == (k : Int)) = false := by simp; omega
              clear p2
              go_wp2
              go_ret
              exact ⟨rfl, B1⟩
            · have g0' : (g == 0) = false := by simp [g0]
              by_cases x0 : x = 0
              · subst x0
                have : k = 0 := by omega
                omega
              · have x0' : ((x : Int) == 0) = false := by simp; omega
                clear p2
                go_wp2
                go_ret
                exact ⟨rfl, B1⟩

/-- A list of checks with one more behind it. -/
theorem snoc_rd {w : World} {base : Nat} {v : Value} {m : Nat} {M : Nat → Bool} {x : Bool} (h : w.ownsRow base 4 1 v (m + 1) (rows 1 m (fun i _ => .bool (M i)) ++ [.bool x])) :
    ∃ ao cap, v = .slice ao (m + 1) cap ∧ RdB w ao (m + 1) cap (fun i => if i < m then M i else x) := by
  have e : rows 1 m (fun i _ => Value.bool (M i)) ++ [.bool x] = ((List.range m).map M ++ [x]).map Value.bool := by
    have : rows 1 m (fun i _ => Value.bool (M i)) = ((List.range m).map M).map Value.bool := by
      unfold rows
      rw [List.map_map, List.map_eq_flatMap]
      rfl
    rw [this]; simp
  rw [e] at h
  have hl : ((List.range m).map M ++ [x]).length = m + 1 := by simp
  have h' : w.ownsRow base 4 1 v ((List.range m).map M ++ [x]).length (((List.range m).map M ++ [x]).map Value.bool) := by rw [hl]; exact h
  obtain ⟨ao, cap, h1, h2, _⟩ := RdB_of_own h'
  rw [hl] at h1 h2
  refine ⟨ao, cap, h1, h2.congr (fun i hi j _ => ?_)⟩
  show Value.bool _ = Value.bool _
  congr 1
  by_cases him : i < m
  · simp [him, List.getElem?_append]
  · obtain rfl : i = m := by omega
    simp

theorem fnGoodShareMore_walk (ao : Option Addr) (n cap : Nat) (c : Nat → Int) (w : World) (h : Code8 w ao n cap c) :
    Calls Try.prog 8 #[.slice ao n cap] w (SaysTrue w) := by
  have hcap : n ≤ 9223372036854775807 := by have := h.1; have := h.2.1; unfold maxLen at this; omega
  by_cases hn : 1048576 < n
  · go_enter Try.func8, Try.ntmps8
    go_wp2
    go_ret
    exact ⟨rfl, Below.refl _ _⟩
  · go_enter Try.func8, Try.ntmps8
    go_wp2_with fail
    refine (drawGoodShare_calls ao n cap c w h).mono ?_
    rintro e w1 ⟨v, rfl, L, a1, c1, rfl, hL, R1, F1, B1⟩
    clear F1
    generalize hM : (fun i => L.getD i false) = M at R1
    clear hM
    generalize L.length = m at hL R1 ⊢
    have I := Lib.hid (implGoodShare_calls a1 m c1 M w1 R1)
    have S := Lib.hid (specGoodShare_calls a1 m c1 M w1 R1)
    by_cases h12 : 12 < m
    · have e : goodShare m M = -1 := by simp [goodShare, h12]
      rw [e] at I S
      clear e
      go_wp2_with (first | (go_at_call 12; refine (S.out).mono ?_; rintro e w' ⟨rfl, rfl⟩) | (go_at_call 14; refine (I.out).mono ?_; rintro e w' ⟨rfl, rfl⟩))
      go_ret
      exact ⟨rfl, B1⟩
    · obtain ⟨f1, f2, _, _⟩ := goodShare_facts m M (by omega)
      by_cases hm12 : m = 12
      · subst hm12
        generalize goodShare 12 M = g at I S f1 f2
        go_wp2_with (first | (go_at_call 12; refine (S.out).mono ?_; rintro e w' ⟨rfl, rfl⟩) | (go_at_call 14; refine (I.out).mono ?_; rintro e w' ⟨rfl, rfl⟩))
        go_ret
        exact ⟨rfl, B1⟩
      · have hm12' : ((m : Int) == 12) = false := by simp; omega
        have k1 : goodShare m M ≤ goodShare (m + 1) (fun i => if i < m then M i else true) := (goodShare_more m M _ (by omega) (fun i hi => by simp [hi])).1 (by simp)
        have k2 : goodShare (m + 1) (fun i => if i < m then M i else false) ≤ goodShare m M := (goodShare_more m M _ (by omega) (fun i hi => by simp [hi])).2 (by simp)
        generalize goodShare m M = g at I S f1 f2 k1 k2
        go_wp2_with fail
        refine I.out.mono ?_
        rintro e w' ⟨rfl, rfl⟩
        go_wp2_with fail
        refine S.out.mono ?_
        rintro e w' ⟨rfl, rfl⟩
        clear I S
        go_wp2_with (at_builtin; refine appAll Try.underlying28 infoBool rfl (by decide) (by decide) (World.ownsRow_lit w1 #[] 0 (Nat.le_refl _) (Nat.zero_le _) rfl) (R1.below ((Below.refl _ _).alloc (Nat.le_refl _) _)) (by omega) (by simp) (fun _ _ _ _ => rfl) _ _ rfl rfl rfl rfl ?_)
        intro v1 w2 O1 G1
        have BB2 : Below w1.heap.size w1 w2 := ((Below.refl _ _).alloc (Nat.le_refl _) _).grown G1 (by simp) (fun g hg => by simp [Value.ownBlock] at hg; omega)
        go_wp2_with (at_builtin; refine app1 Try.underlying28 infoBool rfl (by decide) (by decide) O1 (by omega) BB2.size rfl (by simp [Value.oneCell']) _ _ rfl rfl rfl rfl ?_)
        intro v2 w3 O2 G2
        obtain ⟨a2, c2, rfl, R2⟩ := snoc_rd O2
        have BB3 := BB2.grown G2 BB2.size (fun g hg => (O1.lt g hg).1)
        have B3 := B1.trans (BB3.mono B1.size)
        have R1' := R1.below BB3
        have I2 := Lib.hid (implGoodShare_calls a2 (m + 1) c2 _ w3 R2)
        generalize goodShare (m + 1) (fun i => if i < m then M i else true) = u at I2 k1
        clear O2 R2 BB3 BB2 G2 O1 G1
        go_wp2_with fail
        refine I2.out.mono ?_
        rintro e w' ⟨rfl, rfl⟩
        clear I2
        go_wp2_with (at_builtin; refine appAll Try.underlying28 infoBool rfl (by decide) (by decide) (World.ownsRow_lit w3 #[] 0 (Nat.le_refl _) (Nat.zero_le _) rfl) (R1'.below ((Below.refl _ _).alloc (Nat.le_refl _) _)) (by omega) (by simp) (fun _ _ _ _ => rfl) _ _ rfl rfl rfl rfl ?_)
        intro v3 w4 O3 G3
        have BB4 : Below w3.heap.size w3 w4 := ((Below.refl _ _).alloc (Nat.le_refl _) _).grown G3 (by simp) (fun g hg => by simp [Value.ownBlock] at hg; omega)
        go_wp2_with (at_builtin; refine app1 Try.underlying28 infoBool rfl (by decide) (by decide) O3 (by omega) BB4.size rfl (by simp [Value.oneCell']) _ _ rfl rfl rfl rfl ?_)
        intro v4 w5 O4 G4
        obtain ⟨a4, c4, rfl, R4⟩ := snoc_rd O4
        have BB5 := BB4.grown G4 BB4.size (fun g hg => (O3.lt g hg).1)
        have B5 := B3.trans (BB5.mono B3.size)
        have I3 := Lib.hid (implGoodShare_calls a4 (m + 1) c4 _ w5 R4)
        generalize goodShare (m + 1) (fun i => if i < m then M i else false) = u' at I3 k2
        clear O4 R4 BB5 BB4 G4 O3 G3
        go_wp2_with fail
        refine I3.out.mono ?_
        rintro e w' ⟨rfl, rfl⟩
        clear I3
        go_wp2
        go_ret
        exact ⟨rfl, B5⟩
end Go.Proofs.Ytacdgddamphgnaa
