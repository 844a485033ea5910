/- The drawn times; the arguments of BreakerPath. -/
import Derived.Test.YtcgnaokpdlbhbaaPathLaws1
import Derived.Test.YtcgnaokpdlbhbaaChecks
import Derived.Test.YtcgnaokpdlbhbaaDrawBreaker2
import Derived.Test.YtcgnaokpdlbhbaaSteps
namespace Go.Proofs.Ytcgnaokpdlbhbaa
open Go.ChangeShapes Go.WideShapes Go.ChangeAt Go.RowKit
set_option linter.unusedVariables false

theorem own_caps {w : World} {base : Nat} {e : TypeId} {s n cap : Nat} {ao : Option Addr} {xs : List Value} (h : w.ownsRow base e s (.slice ao n cap) n xs) : n ≤ cap ∧ cap ≤ maxLen := by
  rcases h.2 with ⟨hv, h0⟩ | ⟨g, c, _, hv, _, _, h1, h2, _⟩
  · injection hv with _ h2 h3; subst h2 h3; exact ⟨Nat.le_refl _, by unfold maxLen; omega⟩
  · injection hv with _ _ h3; subst h3; exact ⟨h1, h2⟩
theorem RdI_drop1 {w : World} {b off n cap : Nat} {T : Nat → Int} (h : RdI w (some ⟨b, off, none⟩) n cap T) (hn : 1 ≤ n) : RdI w (some ⟨b, off + 1, none⟩) (n - 1) (cap - 1) (fun i => T (1 + i)) := by
  have := Rd.drop h (k := 1) hn
  rw [Nat.one_mul] at this
  exact this
/-- Some list in new memory. -/
def SomeI (w : World) (n : Nat) (e : Ending) (w' : World) : Prop :=
  ∃ (zs : List Int) (a : Option Addr) (c : Nat), zs.length = n ∧ e = .returned (.slice a n c) ∧ w'.ownsRow w.heap.size 3 1 (.slice a n c) n (zs.map (Value.int .i64)) ∧ Below w.heap.size w w'
theorem rows_map (T : Nat → Int) (n : Nat) : rows 1 n (fun i _ => Value.int .i64 (T i)) = ((List.range n).map T).map (Value.int .i64) := by
  unfold rows
  induction n with
  | zero => rfl
  | succ n ih => rw [List.range_succ (n := n), List.flatMap_append, ih]; simp
theorem copyInts_calls (ao : Option Addr) (n cap : Nat) (T : Nat → Int) (w : World) (h : RdI w ao n cap T) (hn : n ≤ 1000) : Calls Try.prog 65 #[.slice ao n cap] w (SomeI w n) := by
  go_enter Try.func65, Try.ntmps65
  go_wp2_with (at_builtin; refine appAll Try.underlying43 infoInt rfl (by decide) (by decide) (World.ownsRow_lit w #[] 0 (Nat.le_refl _) (Nat.zero_le _) rfl) (Rd.below h ((Below.refl _ _).alloc (Nat.le_refl _) _)) (by omega) (by simp) (fun i j _ _ => rfl) _ _ rfl rfl rfl rfl ?_)
  intro v1 w2 O1 G1
  have B2 : Below w.heap.size w w2 := ((Below.refl _ _).alloc (Nat.le_refl _) _).grown G1 (by simp) (fun g hg => by simp [Value.ownBlock] at hg; omega)
  rw [rows_map] at O1
  have O2 : w2.ownsRow w.heap.size 3 1 v1 n (((List.range n).map T).map (Value.int .i64)) := by simpa using O1
  obtain ⟨a, c, rfl⟩ := own_slice O2
  have HO := Lib.hid O2
  clear O1 O2 G1
  go_wp2
  go_ret
  exact ⟨_, a, c, by simp, rfl, HO.out, B2⟩

/-- At most 14 numbers in new memory. -/
def DrawnI (B : Nat) (w : World) (r : Nat) (sl : Value) (K : Nat) (e : Ending) (w' : World) : Prop :=
  ∃ (T : Nat → Int) (m : Nat) (ao : Option Addr) (cap : Nat), e = .returned (.slice ao m cap) ∧ m ≤ 14 ∧ RdI w' ao m cap T ∧ (∀ b off x, ao = some ⟨b, off, x⟩ → w.heap.size ≤ b) ∧ RS B w' r sl K ∧ w.grownBy w' (some r)

set_option maxHeartbeats 1000000 in
theorem spoil_calls {B : Nat} {r : Nat} {sl : Value} {K : Nat} (w : World) (h : RS B w r sl K) (hK : K ≤ 200000) (ao : Option Addr) (n cap : Nat) (T : Nat → Int) (x : Int) (hT : RdI w ao n cap T) (hn : n ≤ 13) :
    Calls Try.prog 64 #[.pointer (some ⟨r, 0, none⟩), .slice ao n cap, .int .i64 x] w (DrawnI B w r sl (K + 3)) := by
  have hrlt := h.lt
  have hbase := h.base
  go_enter Try.func64, Try.ntmps64
  go_wp2_with fail
  refine (copyInts_calls ao n cap T w hT (by omega)).mono ?_
  rintro e w1 ⟨zs, a, c, hl, rfl, O1, B1⟩
  have s1 := B1.size
  have HL := Lib.hid hl
  have lt1 := O1.lt
  clear hl hT
  go_wp2_with fail
  refine (pick1 20 (h.below B1) (by omega)).mono ?_
  rintro e w2 ⟨v, rfl, hv0, hv1, R2, G2⟩
  have O2 := O1.kept G2 (.inr (fun e => by have := lt1 _ e; omega))
  have G02 : w.grownBy w2 (some r) := grown_trans (grown_of_below B1 (some r)) G2 (fun g hg => .inr hg)
  have s2 := G02.size
  have fresh : ∀ b off x, a = some ⟨b, off, x⟩ → w.heap.size ≤ b := own_base O2
  clear hv1 O1 B1 G2 h
  by_cases v0 : v = 0
  · subst v0
    have HG := Lib.hid G02
    have HR := Lib.hid R2
    clear fresh
    go_wp2_with (at_builtin; refine app1 Try.underlying43 infoInt rfl (by decide) (by decide) O2 (by omega) (by omega) rfl (by simp [Value.oneCell']) _ _ rfl rfl rfl rfl ?_)
    intro v' w3 O3 G3
    have O3' : w3.ownsRow w.heap.size 3 1 v' (n + 1) ((zs ++ [x]).map (Value.int .i64)) := by simpa using O3
    obtain ⟨a3, c3, rfl⟩ := own_slice O3'
    have R3 := HR.out.grown G3 (fun g hg => by have := O2.lt g hg; omega)
    have G03 := grown_trans HG.out G3 (fun g hg => by have := O2.lt g hg; omega)
    have HO3 := Lib.hid O3'
    clear O3 O3' O2 G3
    go_wp2
    go_ret
    exact ⟨_, n + 1, a3, c3, rfl, by omega, RdI_of_ownL (by simp [HL.out]) HO3.out, own_base HO3.out, R3.mono (by omega), G03⟩
  · have v0' : (v == 0) = false := by simp [v0]
    by_cases v1 : v = 1
    · subst v1
      by_cases hn0 : 0 < n
      · obtain ⟨g, c2, hf⟩ := own_form O2 hn0
        injection hf with e1 e2 e3
        subst e1 e3
        have hcaps := own_caps O2
        have hRd := RdI_of_ownL HL.out O2
        have i0 : (0 : Int) < (n : Int) := by omega
        have i1 : (1 : Int) ≤ (n : Int) := by omega
        have i2 : (n : Int) ≤ (c : Int) := by omega
        have HF := Lib.hid fresh
        have HG := Lib.hid G02
        have HRd := Lib.hid hRd
        have hmc := hcaps.2
        unfold maxLen at hmc
        clear O2 G02 hRd fresh
        by_cases hc : c = 1
        · subst hc
          obtain rfl : n = 1 := by omega
          go_wp2
          go_ret
          exact ⟨fun _ => 0, 0, _, _, rfl, by omega, ⟨Nat.le_refl _, Nat.zero_le _, fun _ => rfl, .inl rfl⟩, HF.out, R2.mono (by omega), HG.out⟩
        · go_wp2
          go_ret
          exact ⟨_, n - 1, _, _, rfl, by omega, RdI_drop1 HRd.out (by omega), fun b off x hx => by have h0 := HF.out g 0 none rfl; injection hx with hx; injection hx with h1; omega, R2.mono (by omega), HG.out⟩
      · obtain rfl : n = 0 := by omega
        have HO2 := Lib.hid O2
        have HG := Lib.hid G02
        have HF := Lib.hid fresh
        clear O2 G02 fresh
        go_wp2
        go_ret
        exact ⟨_, 0, a, c, rfl, by omega, RdI_of_ownL HL.out HO2.out, HF.out, R2.mono (by omega), HG.out⟩
    · have v1' : (v == 1) = false := by simp [v1]
      by_cases v2 : v = 2
      · subst v2
        by_cases hn0 : 0 < n
        · obtain ⟨g, c2, hf⟩ := own_form O2 hn0
          injection hf with e1 e2 e3
          subst e1 e3
          have hgl := O2.lt g rfl
          have i0 : (0 : Int) < (n : Int) := by omega
          clear fresh
          go_wp2_with fail
          refine (pick1 (n : Int) R2 (by omega)).mono ?_
          rintro e w3 ⟨u, rfl, hu0, hu1, R3, G3⟩
          obtain ⟨i, rfl⟩ := Int.eq_ofNat_of_zero_le hu0
          have hi : i < n := by have := hu1 (by omega); omega
          have i1 : (i : Int) < (n : Int) := by omega
          have O3 := O2.kept G3 (.inr (by simp [Value.ownBlock]; omega))
          have G03 := grown_trans G02 G3 (fun g hg => .inr hg)
          clear hu1 O2 G02 G3 R2
          go_wp2_with fail
          refine (one1 [-1, x, 0, 1] rfl (R3.alloc _) (by omega) (lit_heap' [-1, x, 0, 1] (by simp)) (by simp) (by simp)).mono ?_
          rintro e w4 ⟨y, _, rfl, R4, G4⟩
          have O4 := (O3.alloc (.cells ([-1, x, 0, 1].map (Value.int .i64)).toArray 3)).kept G4 (.inr (by simp [Value.ownBlock]; omega))
          have G04 := grown_trans (grown_alloc' G03 (.cells ([-1, x, 0, 1].map (Value.int .i64)).toArray 3)) G4 (fun g hg => .inr hg)
          obtain ⟨d0, hd0⟩ := own_some O4 i (by omega)
          have z0 := O4.frozenAt i
          have st := O4.stored i (.int .i64 y)
          have O5 := st.1
          have e : (zs.map (Value.int .i64)).set i (.int .i64 y) = (zs.set i y).map (Value.int .i64) := by rw [List.map_set]
          rw [e] at O5
          have HO5 := Lib.hid O5
          have R5 := Lib.hid (R4.grown st.2 (fun q hq => by simp at hq; omega))
          have G05 := Lib.hid (grown_trans G04 st.2 (fun q hq => by simp at hq; omega))
          clear O3 G03 R3 O4 G4 G04 st O5 e R4
          go_wp2
          go_ret
          exact ⟨_, n, _, _, rfl, by omega, RdI_of_ownL (by simp [HL.out]) HO5.out, own_base HO5.out, R5.out.mono (by omega), G05.out⟩
        · obtain rfl : n = 0 := by omega
          have HO2 := Lib.hid O2
          have HG := Lib.hid G02
          have HF := Lib.hid fresh
          clear O2 G02 fresh
          go_wp2
          go_ret
          exact ⟨_, 0, a, c, rfl, by omega, RdI_of_ownL HL.out HO2.out, HF.out, R2.mono (by omega), HG.out⟩
      · have v2' : (v == 2) = false := by simp [v2]
        have HO2 := Lib.hid O2
        have HG := Lib.hid G02
        clear O2 G02
        go_wp2
        go_ret
        exact ⟨_, n, a, c, rfl, by omega, RdI_of_ownL HL.out HO2.out, fresh, R2.mono (by omega), HG.out⟩
end Go.Proofs.Ytcgnaokpdlbhbaa
