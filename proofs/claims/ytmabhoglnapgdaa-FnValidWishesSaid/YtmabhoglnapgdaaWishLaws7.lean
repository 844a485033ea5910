/- The walk of FnValidWishes. -/
import Derived.Test.YtmabhoglnapgdaaWishLaws5
namespace Go.Proofs.Ytmabhoglnapgdaa
open Go.ChangeShapes Go.WideShapes Go.ChangeAt Go.RowKit
set_option linter.unusedVariables false

theorem own_slice7 {w : World} {base : Nat} {e : TypeId} {s : Nat} {v : Value} {n : Nat} {xs : List Value} (h : w.ownsRow base e s v n xs) : ∃ a c, v = .slice a n c := by
  rcases h.2 with ⟨h1, h2⟩ | ⟨g, c, _, h1, _⟩
  · exact ⟨none, 0, by rw [h1, h2]⟩
  · exact ⟨_, _, h1⟩
theorem Rd.dropIf {w : World} {s b off n cap : Nat} {f : Nat → Nat → Value} (h : Rd w s (some ⟨b, off, none⟩) n cap f) {k : Nat} (hk : k ≤ n) : Rd w s (if cap = k then some ⟨b, off, none⟩ else some ⟨b, off + k * s, none⟩) (n - k) (cap - k) (fun i j => f (k + i) j) := by
  split
  · have h1 := h.1
    have h2 := h.2.1
    exact ⟨by omega, by omega, fun h => by simp at h, .inl (by omega)⟩
  · exact Rd.drop h hk
def dropW (L : Nat → Wi) (k : Nat) : Nat → Wi := fun i => if i < k then L i else L (k + 1 + (i - k))
theorem rowsW_join (L M : Nat → Wi) (a : Nat) : ∀ r, rowsW L a ++ rowsW M r = rowsW (fun i => if i < a then L i else M (i - a)) (a + r) := by
  intro r
  induction r with
  | zero =>
    have : rowsW M 0 = [] := rfl
    rw [this, List.append_nil]
    exact rowsW_congr fun i hi => by simp [hi]
  | succ r ih =>
    have e : ¬ a + r < a := by omega
    rw [← rowsW_step M r, ← List.append_assoc, ih, ← Nat.add_assoc, ← rowsW_step _ (a + r)]
    simp [e]
theorem rows_wish (L : Nat → Wi) (n : Nat) : rows 3 n (fun i j => wcell (L i) j) = rowsW L n := flatR_congr fun i _ => rfl
theorem rows_drop (L : Nat → Wi) (k r : Nat) : rows 3 k (fun i j => wcell (L i) j) ++ rows 3 r (fun i j => wcell (L (k + 1 + i)) j) = rowsW (dropW L k) (k + r) := by
  rw [rows_wish, rows_wish (fun i => L (k + 1 + i)), rowsW_join]
  rfl
theorem rows_drop0 (L : Nat → Wi) (k r : Nat) : [] ++ rows 3 k (fun i j => wcell (L i) j) ++ rows 3 r (fun i j => wcell (L (k + 1 + i)) j) = rowsW (dropW L k) (0 + k + r) := by
  rw [List.nil_append, Nat.zero_add]; exact rows_drop L k r
theorem drop_own {w : World} {base : Nat} {e : TypeId} {v : Value} {L : Nat → Wi} {k r : Nat} (h : w.ownsRow base e 3 v (0 + k + r) ([] ++ rows 3 k (fun i j => wcell (L i) j) ++ rows 3 r (fun i j => wcell (L (k + 1 + i)) j))) : ∃ a c, v = .slice a (k + r) c ∧ RdW w a (k + r) c (dropW L k) := by
  rw [rows_drop0, Nat.zero_add] at h
  obtain ⟨a, c, rfl⟩ := own_slice7 h
  exact ⟨a, c, rfl, RdW_of_own h⟩
theorem drop_own0 {w : World} {base : Nat} {e : TypeId} {v : Value} {L : Nat → Wi} {k : Nat} (h : w.ownsRow base e 3 v (0 + k + 0) ([] ++ rows 3 k (fun i j => wcell (L i) j) ++ rows 3 0 (fun i j => wcell (L (k + 1 + i)) j))) : ∃ a c, v = .slice a k c ∧ RdW w a k c (dropW L k) := drop_own (r := 0) h
theorem drop_valid {L : Nat → Wi} {n k : Nat} (h : vW L n = true) (hk : k < n) : vW (dropW L k) (k + (n - (k + 1))) = true := by
  obtain ⟨h1, h2⟩ := vW_yes h
  simp only [vW, Bool.and_eq_true, decide_eq_true_eq]
  refine ⟨okW_all.2 fun j hj => ?_, by omega⟩
  by_cases e : j < k
  · have a := okW_at h1 j (by omega)
    have d : dropW L k j = L j := by simp [dropW, e]
    have b : lastA (dropW L k) j = lastA L j := by cases j with
      | zero => rfl
      | succ j => show (dropW L k j).at_ = (L j).at_; simp [dropW, show j < k by omega]
    rw [d, b]; exact a
  · have d : dropW L k j = L (j + 1) := by
      have : k + 1 + (j - k) = j + 1 := by omega
      simp [dropW, e, this]
    have a := okW_at h1 (j + 1) (by omega)
    have b : lastA (dropW L k) j ≤ lastA L (j + 1) := by
      cases j with
      | zero => have := okW_facts h1 0 (by omega); show (0 : Int) ≤ (L 0).at_; omega
      | succ j =>
        show (dropW L k j).at_ ≤ (L (j + 1)).at_
        by_cases e2 : j < k
        · have c := (okW_at h1 (j + 1) (by omega)).1
          simp only [dropW, if_pos e2]
          exact c
        · have : k + 1 + (j - k) = j + 1 := by omega
          simp [dropW, e2, this]
    rw [d]
    refine ⟨?_, a.2⟩
    omega

theorem lay_size {w w' : World} {o : Obj} {row : Option Nat} (h : (w.drew.alloc o).grownBy w' row) : w.heap.size ≤ w'.heap.size := by
  have := h.size
  simp at this
  omega
theorem lay_below {B : Nat} {a w w' : World} {o : Obj} {n c : Nat} (h : Below B a (w.drew.alloc o)) (hg : (w.drew.alloc o).grownBy w' (Value.slice (some ⟨w.drew.heap.size, 0, none⟩) n c).ownBlock) (hB : B ≤ w.heap.size) : Below B a w' :=
  h.grown hg (by simp; omega) (fun g hg => by simp [Value.ownBlock] at hg; omega)
theorem row_below {B base : Nat} {a w w' : World} {e : TypeId} {s n : Nat} {v : Value} {xs : List Value} (h : Below B a w) (ho : w.ownsRow base e s v n xs) (hg : w.grownBy w' v.ownBlock) (hB : B ≤ base) (hw : B ≤ w.heap.size) : Below B a w' :=
  h.grown hg hw (fun g hg => by have := (ho.lt g hg).1; omega)
theorem validNil (w : World) : Calls Try.prog 21 #[.slice none 0 0] w fun e w' => e = .returned (.bool true) ∧ Below w.heap.size w w' :=
  implValidWishes_v (L := fun _ => default) (n := 0) rfl (Rd.nil _ _ _)
theorem wcell_one (x : Wi) (j : Nat) : (wcell x j).oneCell' = true := by unfold wcell; split <;> rfl
set_option maxHeartbeats 1000000 in
theorem fnValidWishes_walk (ao : Option Addr) (n cap : Nat) (c : Nat → Int) (w : World) (h : Code8 w ao n cap c) : Calls Try.prog 3 #[.slice ao n cap] w (SaysTrue w) := by
  have hcap := code_len h
  by_cases hn : 1048576 < n
  · go_enter Try.func3, Try.ntmps3
    go_wp2
    go_ret
    exact ⟨rfl, Below.refl _ _⟩
  · go_enter Try.func3, Try.ntmps3
    go_wp2_with fail
    refine (drawValidWishes_calls ao n cap c w h).mono ?_
    rintro e w1 ⟨L, m, a, cp, rfl, hm, R1, B1⟩
    have D1 := Below.refl w1.heap.size w1
    have hml := R1.len
    cases hv : vW L m
    · have HV := Lib.hid hv
      clear hv
      go_wp2_with fail
      refine (implValidWishes_v HV.out R1).mono ?_
      rintro e w2 ⟨rfl, hb2⟩
      have D2 := D1.trans (hb2.mono D1.size)
      go_wp2_with fail
      refine (specValidWishes_v HV.out (R1.below D2)).mono ?_
      rintro e w3 ⟨rfl, hb3⟩
      have D3 := D2.trans (hb3.mono D2.size)
      go_wp2_with fail
      refine (specValidWishes_v HV.out (R1.below D3)).mono ?_
      rintro e w4 ⟨rfl, hb4⟩
      have D4 := D3.trans (hb4.mono D3.size)
      go_wp2
      go_ret
      exact ⟨rfl, B1.trans (D4.mono B1.size)⟩
    · have HV := Lib.hid hv
      clear hv
      go_wp2_with fail
      refine (implValidWishes_v HV.out R1).mono ?_
      rintro e w2 ⟨rfl, hb2⟩
      have D2 := D1.trans (hb2.mono D1.size)
      go_wp2_with fail
      refine (specValidWishes_v HV.out (R1.below D2)).mono ?_
      rintro e w3 ⟨rfl, hb3⟩
      have D3 := D2.trans (hb3.mono D2.size)
      rcases Nat.eq_zero_or_pos m with h0 | h0
      · subst h0
        go_wp2_with fail
        refine (specValidWishes_v HV.out (R1.below D3)).mono ?_
        rintro e w4 ⟨rfl, hb4⟩
        have D4 := D3.trans (hb4.mono D3.size)
        go_wp2
        go_ret
        exact ⟨rfl, B1.trans (D4.mono B1.size)⟩
      · have h0' : ((m : Int) == 0) = false := by simp; omega
        obtain ⟨b, off, rfl, hb, _⟩ := R1.pos h0
        obtain ⟨kk, hkk, hkm⟩ : ∃ kk : Nat, (n : Int) % (m : Int) = (kk : Int) ∧ kk < m := ⟨n % m, by simp, Nat.mod_lt _ h0⟩
        have hmc := R1.1
        have hcm := R1.2.1
        have hcm' := hcm
        unfold maxLen at hcm'
        have i1 : (0 : Int) ≤ (kk : Int) := by omega
        have i2 : (kk : Int) ≤ (cp : Int) := by omega
        have i3 : (kk : Int) + 1 ≤ (m : Int) := by omega
        have i4 : (kk : Int) + 1 ≤ (cp : Int) := by omega
        have i5 : (0 : Int) ≤ (kk : Int) + 1 := by omega
        have hw : IntKind.i64.wrap ((kk : Int) + 1) = (kk : Int) + 1 := IntWalk.i64_in _ (by omega)
        have ht : ((kk : Int) + 1).toNat = kk + 1 := by omega
        have HD := Lib.hid (drop_valid HV.out hkm)
        have HN := Lib.hid (show vW (fun _ => default) 0 = true from rfl)
        have BB : Below w1.heap.size w1 (w3.drew.alloc (.cells #[] 28)) := (below_drew D3).alloc D3.size _
        have hz3 := D3.size
        have R1' : Rd w1 3 (some ⟨b, off, none⟩) m cp (fun i j => wcell (L i) j) := R1
        by_cases hcp : cp = kk + 1
        · subst hcp
          have i7 : (kk : Int) ≤ (kk : Int) + 1 := by omega
          have i8 : (m : Int) ≤ (kk : Int) + 1 := by omega
          have HD0 := Lib.hid (show vW (dropW L kk) kk = true by have := HD.out; rw [show kk + (m - (kk + 1)) = kk by omega] at this; exact this)
          go_wp2
          have n1 : 0 + kk ≤ 2097152 := by omega
          have n2 : 0 + kk + 0 ≤ 2097152 := by omega
          have n3 : kk ≤ m := by omega
          have n4 : kk + 1 ≤ m := by omega
          have hle3 : w3.heap.size ≤ (w3.drew.alloc (.cells #[] 28)).heap.size := by simp
          go_region_held3 (fun _ => True) (trivial)
            (first | (go_at_call 21; (with_reducible refine (implValidWishes_v HD0.out R6).mono ?_); rintro e w7 ⟨rfl, hb7⟩; have D7 := D6.trans (hb7.mono D6.size)) | (go_at_call 21; (with_reducible refine (validNil _).mono ?_); rintro e w8 ⟨rfl, hb8⟩; have D8 := D7.trans (hb8.mono D7.size)) | (refine step_appAll Try.underlying23 infoWish rfl (by decide) (by decide) (base := w3.heap.size) (World.ownsRow_lit w3.drew #[] 0 (Nat.le_refl _) (Nat.zero_le _) rfl) (Rd.take (R1.below BB) n3) n1 hle3 (fun i j _ _ => wcell_one (L i) j) (.tmp 35) (.tmp 38) (by rfl) (by rfl) (by rfl) (by rfl) ?_; intro v5 w5 O5 G5; have D5 : Below w1.heap.size w1 w5 := lay_below BB G5 hz3) | (refine step_appAll Try.underlying23 infoWish rfl (by decide) (by decide) (base := w3.heap.size) O5 (show Rd w5 3 (some ⟨b, off, none⟩) 0 0 (fun i j => wcell (L (kk + 1 + i)) j) from ⟨Nat.le_refl _, Nat.zero_le _, fun h => by simp at h, .inl rfl⟩) n2 (lay_size G5) (fun i j _ _ => wcell_one (L (kk + 1 + i)) j) (.tmp 39) (.tmp 43) (by rfl) (by rfl) (by rfl) (by rfl) ?_; intro v6 w6 O6 G6; have D6 : Below w1.heap.size w1 w6 := row_below D5 O5 G6 hz3 D5.size; obtain ⟨a6, c6, rfl, R6⟩ := drop_own0 O6))
          go_wp2
          go_ret
          exact ⟨rfl, B1.trans (D8.mono B1.size)⟩
        · have hcp' : ¬ (cp : Int) = (kk : Int) + 1 := by omega
          go_wp2
          have n1 : 0 + kk ≤ 2097152 := by omega
          have n2 : 0 + kk + (m - (kk + 1)) ≤ 2097152 := by omega
          have n3 : kk ≤ m := by omega
          have n4 : kk + 1 ≤ m := by omega
          have hle3 : w3.heap.size ≤ (w3.drew.alloc (.cells #[] 28)).heap.size := by simp
          go_region_held3 (fun _ => True) (trivial)
            (first | (go_at_call 21; (with_reducible refine (implValidWishes_v HD.out R6).mono ?_); rintro e w7 ⟨rfl, hb7⟩; have D7 := D6.trans (hb7.mono D6.size)) | (go_at_call 21; (with_reducible refine (validNil _).mono ?_); rintro e w8 ⟨rfl, hb8⟩; have D8 := D7.trans (hb8.mono D7.size)) | (refine step_appAll Try.underlying23 infoWish rfl (by decide) (by decide) (base := w3.heap.size) (World.ownsRow_lit w3.drew #[] 0 (Nat.le_refl _) (Nat.zero_le _) rfl) (Rd.take (R1.below BB) n3) n1 hle3 (fun i j _ _ => wcell_one (L i) j) (.tmp 35) (.tmp 38) (by rfl) (by rfl) (by rfl) (by rfl) ?_; intro v5 w5 O5 G5; have D5 : Below w1.heap.size w1 w5 := lay_below BB G5 hz3) | (refine step_appAll Try.underlying23 infoWish rfl (by decide) (by decide) (base := w3.heap.size) O5 (Rd.below (Rd.drop R1' n4) D5) n2 (lay_size G5) (fun i j _ _ => wcell_one (L (kk + 1 + i)) j) (.tmp 39) (.tmp 43) (by rfl) (by rfl) (by rfl) (by rfl) ?_; intro v6 w6 O6 G6; have D6 : Below w1.heap.size w1 w6 := row_below D5 O5 G6 hz3 D5.size; obtain ⟨a6, c6, rfl, R6⟩ := drop_own O6))
          go_wp2
          go_ret
          exact ⟨rfl, B1.trans (D8.mono B1.size)⟩
end Go.Proofs.Ytmabhoglnapgdaa
