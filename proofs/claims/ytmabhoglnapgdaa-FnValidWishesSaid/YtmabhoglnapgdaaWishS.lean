/- Wishes of the exact laws: copies, comparisons, marks. -/
import Derived.Test.YtmabhoglnapgdaaWish
import Derived.Test.YtmabhoglnapgdaaRowsOf
import Derived.StillTailTactics
import Derived.Deep.RegionHeld3
import Derived.Deep.RegionWith
namespace Go.Proofs.Ytmabhoglnapgdaa
open Go.ChangeShapes Go.WideShapes Go.ChangeAt Go.RowKit
set_option linter.unusedVariables false

def wenc (x : Wi) : List Value := [.int .i64 x.at_, .int .i64 x.hold, .int .i64 x.pat]
theorem wenc_len (x : Wi) : (wenc x).length = 3 := rfl
theorem infoWish : (Try.prog.info? 28).map (fun i => (i.zero, i.size, i.bytes)) = some (some (.agg #[.int .i64 0, .int .i64 0, .int .i64 0]), 3, 24) := by kernel_rfl
theorem wenc_get (x : Wi) (j : Nat) (hj : j < 3) : (wenc x).getD j undef = wcell x j := by
  have : j = 0 ∨ j = 1 ∨ j = 2 := by omega
  rcases this with rfl | rfl | rfl <;> rfl
def rowsW (L : Nat → Wi) (n : Nat) : List Value := (List.range n).flatMap fun i => wenc (L i)
theorem rowsW_congr {L M : Nat → Wi} {n : Nat} (h : ∀ i, i < n → L i = M i) : rowsW L n = rowsW M n := flatR_congr fun i hi => by rw [h i hi]
theorem RdW_of_own {w : World} {base : Nat} {e : TypeId} {ao : Option Addr} {n cap : Nat} {L : Nat → Wi} (h : w.ownsRow base e 3 (.slice ao n cap) n (rowsW L n)) : RdW w ao n cap L :=
  (Rd_flat (fun _ => wenc_len _) h).congr fun i _ j hj => wenc_get _ j hj
/-- New memory that holds wishes. -/
def OwnW (w : World) (n : Nat) (L : Nat → Wi) (e : Ending) (w' : World) : Prop :=
  ∃ v, e = .returned v ∧ ∃ ao cap, v = .slice ao n cap ∧ w'.ownsRow w.heap.size 28 3 (.slice ao n cap) n (rowsW L n) ∧ Below w.heap.size w w'

theorem toWish_calls (x : Wi) (w : World) : Calls Try.prog 47 #[.agg #[.int .i64 x.at_, .int .i64 x.hold, .int .i64 x.pat]] w fun e w' => e = .returned (.agg #[.int .i64 x.at_, .int .i64 x.hold, .int .i64 x.pat]) ∧ Below w.heap.size w w' := by
  go_enter Try.func47, Try.ntmps47
  go_wp2
  refine bodyPost_ret (v := .agg #[.int .i64 x.at_, .int .i64 x.hold, .int .i64 x.pat]) (by simp [results, Try.results47, go_sem]) rfl ?_
  exact ⟨rfl, by go_grown⟩

/-- The copy after k rounds. -/
def copyW (L : Nat → Wi) (n k : Nat) : List Value := (List.range n).flatMap fun i => if i < k then wenc (L i) else [.int .i64 0, .int .i64 0, .int .i64 0]
theorem copyW_len (L : Nat → Wi) (k i : Nat) : (if i < k then wenc (L i) else [Value.int .i64 0, .int .i64 0, .int .i64 0]).length = 3 := by split <;> rfl
theorem copyW_zero (L : Nat → Wi) (n : Nat) : copyW L n 0 = (List.range n).flatMap fun _ => [Value.int .i64 0, .int .i64 0, .int .i64 0] := flatR_congr fun i _ => by simp
theorem copyW_all (L : Nat → Wi) (n : Nat) : copyW L n n = rowsW L n := flatR_congr fun i hi => by simp [hi]
theorem copyW_step (L : Nat → Wi) (n k : Nat) (hk : k < n) : ((((copyW L n k).set (k * 3) (.int .i64 (L k).at_)).set (k * 3 + 1) (.int .i64 (L k).hold)).set (k * 3 + 2) (.int .i64 (L k).pat)) = copyW L n (k + 1) := by
  unfold copyW
  rw [flat_set3 _ (copyW_len L k) n k hk]
  refine flatR_congr fun i hi => ?_
  by_cases e : i = k
  · subst e; simp [wenc]
  · rw [if_neg e]
    have : (i < k + 1) ↔ (i < k) := by omega
    simp [this]

theorem toWishS_calls (ao : Option Addr) (n cap : Nat) (L : Nat → Wi) (w : World) (h : RdW w ao n cap L) (hn : n ≤ 1048576) :
    Calls Try.prog 24 #[.slice ao n cap] w (OwnW w n L) := by
  obtain ⟨i0, hi, hz0, hz1, hz2⟩ := info_parts infoWish
  have hlen := h.len
  go_enter Try.func24, Try.ntmps24
  go_wp2_with (at_make; refine wpList_make_full _ rfl _ _ 23 rfl w.heap.size 28 i0 (.agg #[.int .i64 0, .int .i64 0, .int .i64 0]) 3 Try.underlying23 hi hz0 hz1 _ _ _ _ n rfl rfl rfl rfl (by rw [hz2]; omega) (by unfold maxLen; omega) (Nat.le_refl _) ?_)
  intro w1 hown hgrow
  have hown1 : w1.ownsRow w.heap.size 28 3 (.slice (some ⟨w.heap.size, 0, none⟩) n n) n (copyW L n 0) := by
    rw [copyW_zero, ← made_flat _ 3 (by omega) rfl]; exact hown
  have B1 : Below w.heap.size w w1 := below_of_grown hgrow (Nat.le_refl _) (fun g hg => by simp at hg)
  clear hown hgrow hi hz0 hz1 hz2
  go_wp2
  go_loopw [4] (fun i wr => ∃ k : Nat, k ≤ n ∧ i = .int .i64 k ∧ wr.ownsRow w.heap.size 28 3 (.slice (some ⟨w.heap.size, 0, none⟩) n n) n (copyW L n k) ∧ Below w.heap.size w wr)
    (fun i _ => n - (intOf i).toNat)
  case atStart => exact ⟨0, Nat.zero_le _, rfl, hown1, B1⟩
  case round =>
    obtain ⟨k, hk, rfl, hown, hB⟩ := hrel
    by_cases hlt : k < n
    · obtain ⟨b, off, rfl, hb, hc⟩ := h.pos (by omega)
      obtain ⟨q0, q1, q2⟩ := hc k hlt
      have c0 := (hB.cell (p := ⟨b, off + k * 3, none⟩) hb).trans q0
      have c1 := (hB.cell (p := ⟨b, off + k * 3 + 1, none⟩) hb).trans q1
      have c2 := (hB.cell (p := ⟨b, off + k * 3 + 2, none⟩) hb).trans q2
      have i0 : (k : Int) < (n : Int) := by omega
      clear hc q0 q1 q2
      go_wp2_with fail
      refine (toWish_calls (L k) _).mono ?_
      rintro e w2 ⟨rfl, hb2⟩
      have own2 := own_below hown hb2
      have hB2 := hB.trans (hb2.mono hB.size)
      have lt2 := (own2.lt w.heap.size (by simp [Value.ownBlock])).2
      obtain ⟨v0, d0⟩ := own_some own2 (k * 3) (by omega)
      obtain ⟨v1, d1⟩ := own_some own2 (k * 3 + 1) (by omega)
      obtain ⟨v2, d2⟩ := own_some own2 (k * 3 + 2) (by omega)
      have z0 := own2.frozenAt (k * 3)
      have z1 := own2.frozenAt (k * 3 + 1)
      have z2 := own2.frozenAt (k * 3 + 2)
      have own3 := (((own2.stored (k * 3) (.int .i64 (L k).at_)).1.stored (k * 3 + 1) (.int .i64 (L k).hold)).1.stored (k * 3 + 2) (.int .i64 (L k).pat)).1
      rw [copyW_step L n k hlt] at own3
      have H3 := Lib.hid own3
      clear own3 own2 hown
      go_wp2
      go_roundw
      case rel => exact ⟨k + 1, by omega, by go_num, H3.out, by go_grown⟩
      case measure => simp [intOf]; omega
    · obtain rfl : k = n := by omega
      rw [copyW_all] at hown
      have HO := Lib.hid hown
      clear hown h
      go_wp2
      go_ret
      exact ⟨_, rfl, _, _, rfl, HO.out, hB⟩
theorem szWishS_calls (ao : Option Addr) (n cap : Nat) (l : Int) (w : World) (hn : n ≤ 9223372036854775807) (h : 0 ≤ l - n) (hl : l ≤ 1048576) : Calls Try.prog 23 #[.slice ao n cap, .int .i64 l] w fun e w' => e = .returned (.int .i64 (l - n)) ∧ w = w' := by
  go_enter Try.func23, Try.ntmps23
  go_wp2
  go_ret
  exact ⟨rfl, rfl⟩
theorem szWishS_neg (ao : Option Addr) (n cap : Nat) (l : Int) (w : World) (hn : n ≤ 9223372036854775807) (h : l - n < 0) (hl : 0 ≤ l) : Calls Try.prog 23 #[.slice ao n cap, .int .i64 l] w fun e w' => e = .returned (.int .i64 (-1)) ∧ w = w' := by
  go_enter Try.func23, Try.ntmps23
  go_wp2
  go_ret
  exact ⟨rfl, rfl⟩
theorem eqWish_calls (x : Wi) (w : World) : Calls Try.prog 48 #[.agg #[.int .i64 x.at_, .int .i64 x.hold, .int .i64 x.pat], .agg #[.int .i64 x.at_, .int .i64 x.hold, .int .i64 x.pat]] w (SaysTrue w) := by
  go_enter Try.func48, Try.ntmps48
  go_wp2
  go_ret
  exact ⟨rfl, by go_grown⟩
theorem eqWishS_calls (a b : Option Addr) (n c d : Nat) (L : Nat → Wi) (w : World) (h : RdW w a n c L) (h' : RdW w b n d L) :
    Calls Try.prog 25 #[.slice a n c, .slice b n d] w (SaysTrue w) := by
  have hlen := h.len
  go_enter Try.func25, Try.ntmps25
  go_wp2
  go_loopw [5] (fun i wr => ∃ k : Nat, k ≤ n ∧ i = .int .i64 k ∧ Below w.heap.size w wr) (fun i _ => n - (intOf i).toNat)
  case atStart => exact ⟨0, Nat.zero_le _, rfl, Below.refl _ _⟩
  case round =>
    obtain ⟨k, hk, rfl, hB⟩ := hrel
    by_cases hlt : k < n
    · obtain ⟨b1, o1, rfl, hb1, hc1⟩ := h.pos (by omega)
      obtain ⟨b2, o2, rfl, hb2', hc2⟩ := h'.pos (by omega)
      obtain ⟨q0, q1, q2⟩ := hc1 k hlt
      obtain ⟨r0, r1, r2⟩ := hc2 k hlt
      have g0 := (hB.cell (p := ⟨b1, o1 + k * 3, none⟩) hb1).trans q0
      have g1 := (hB.cell (p := ⟨b1, o1 + k * 3 + 1, none⟩) hb1).trans q1
      have g2 := (hB.cell (p := ⟨b1, o1 + k * 3 + 2, none⟩) hb1).trans q2
      have g3 := (hB.cell (p := ⟨b2, o2 + k * 3, none⟩) hb2').trans r0
      have g4 := (hB.cell (p := ⟨b2, o2 + k * 3 + 1, none⟩) hb2').trans r1
      have g5 := (hB.cell (p := ⟨b2, o2 + k * 3 + 2, none⟩) hb2').trans r2
      have i0 : (k : Int) < (n : Int) := by omega
      have hz := hB.size
      clear hc1 hc2
      go_wp2_with fail
      go_region_held3 (fun w' => w'.cell? ⟨b1, o1 + k * 3, none⟩ = some (.int .i64 (L k).at_) ∧ w'.cell? ⟨b1, o1 + k * 3 + 1, none⟩ = some (.int .i64 (L k).hold) ∧ w'.cell? ⟨b1, o1 + k * 3 + 2, none⟩ = some (.int .i64 (L k).pat) ∧ w'.cell? ⟨b2, o2 + k * 3, none⟩ = some (.int .i64 (L k).at_) ∧ w'.cell? ⟨b2, o2 + k * 3 + 1, none⟩ = some (.int .i64 (L k).hold) ∧ w'.cell? ⟨b2, o2 + k * 3 + 2, none⟩ = some (.int .i64 (L k).pat)) (go_keep)
        (first | (go_at_call 48; refine (eqWish_calls _ _).mono ?_; rintro e w2 ⟨rfl, hb2⟩; have hB2 : Below w.heap.size w w2 := (below_drew hB).trans (hb2.mono hz); have s0 := (hB2.cell (p := ⟨b1, o1 + k * 3, none⟩) hb1).trans q0; have s1 := (hB2.cell (p := ⟨b1, o1 + k * 3 + 1, none⟩) hb1).trans q1; have s2 := (hB2.cell (p := ⟨b1, o1 + k * 3 + 2, none⟩) hb1).trans q2; have s3 := (hB2.cell (p := ⟨b2, o2 + k * 3, none⟩) hb2').trans r0; have s4 := (hB2.cell (p := ⟨b2, o2 + k * 3 + 1, none⟩) hb2').trans r1; have s5 := (hB2.cell (p := ⟨b2, o2 + k * 3 + 2, none⟩) hb2').trans r2))
      go_wp2
      go_roundw
      case rel => exact ⟨k + 1, by omega, by go_num, hB2⟩
      case measure => simp [intOf]; omega
    · go_wp2
      go_ret
      exact ⟨rfl, hB⟩
end Go.Proofs.Ytmabhoglnapgdaa
