/- Ages of the laws: copies, comparisons, marks. -/
import Derived.Test.YtmkpdcikpjpeaaaAgePlain
import Derived.Test.YtmkpdcikpjpeaaaRowsOf
import Derived.Test.YtmkpdcikpjpeaaaOpenF
import Derived.StillTailTactics
import Derived.Deep.RegionHeld3
import Derived.Deep.RegionWith
import Derived.Deep.QuietTactic
import Derived.BigQuiet
namespace Go.Proofs.Ytmkpdcikpjpeaaa
open Go.ChangeShapes Go.WideShapes Go.ChangeAt Go.RowKit
set_option linter.unusedVariables false

theorem grown_reflA (w : World) (row : Option Nat) : w.grownBy w row := ⟨rfl, rfl, rfl, Nat.le_refl _, fun _ _ _ => rfl⟩
def acell (x : Ag) (j : Nat) : Value := match j with | 0 => .int .i64 x.born | _ => .int .i64 x.used
/-- A slice of them. -/
def RdA (w : World) (ao : Option Addr) (n cap : Nat) (L : Nat → Ag) : Prop := Rd w 2 ao n cap (fun i j => acell (L i) j)
theorem RdA.below {w w' : World} {ao : Option Addr} {n cap : Nat} {L : Nat → Ag} (h : RdA w ao n cap L) (hb : Below w.heap.size w w') : RdA w' ao n cap L := Rd.below h hb
theorem RdA.len {w : World} {ao : Option Addr} {n cap : Nat} {L : Nat → Ag} (h : RdA w ao n cap L) : n ≤ 9223372036854775807 := Rd.len h
theorem RdA.pos {w : World} {ao : Option Addr} {n cap : Nat} {L : Nat → Ag} (h : RdA w ao n cap L) (hn : 0 < n) : ∃ b off, ao = some ⟨b, off, none⟩ ∧ b < w.heap.size ∧ ∀ i, i < n → w.cell? ⟨b, off + i * 2, none⟩ = some (.int .i64 (L i).born) ∧ w.cell? ⟨b, off + i * 2 + 1, none⟩ = some (.int .i64 (L i).used) := by
  obtain ⟨b, off, h1, h2, h3⟩ := Rd.pos h hn
  exact ⟨b, off, h1, h2, fun i hi => ⟨h3 i hi 0 (by omega), h3 i hi 1 (by omega)⟩⟩

def aenc (x : Ag) : List Value := [.int .i64 x.born, .int .i64 x.used]
theorem aenc_len (x : Ag) : (aenc x).length = 2 := rfl
theorem infoAge : (Try.prog.info? 28).map (fun i => (i.zero, i.size, i.bytes)) = some (some (.agg #[.int .i64 0, .int .i64 0]), 2, 16) := by kernel_rfl
theorem aenc_get (x : Ag) (j : Nat) (hj : j < 2) : (aenc x).getD j undef = acell x j := by
  have : j = 0 ∨ j = 1 := by omega
  rcases this with rfl | rfl <;> rfl
def rowsA (L : Nat → Ag) (n : Nat) : List Value := (List.range n).flatMap fun i => aenc (L i)
theorem rowsA_congr {L M : Nat → Ag} {n : Nat} (h : ∀ i, i < n → L i = M i) : rowsA L n = rowsA M n := flatR_congr fun i hi => by rw [h i hi]
theorem rowsA_rows (L : Nat → Ag) (n : Nat) : rows 2 n (fun i j => acell (L i) j) = rowsA L n := flatR_congr fun i _ => rfl
theorem rowsA_snoc (L : Nat → Ag) (n : Nat) (y : Ag) : rowsA L n ++ aenc y = rowsA (fun i => if i = n then y else L i) (n + 1) := by
  unfold rowsA
  rw [List.range_succ, List.flatMap_append]
  congr 1
  · exact flatR_congr fun i hi => by
      have : ¬ i = n := by omega
      simp [this]
  · simp
theorem rowsA_step (L : Nat → Ag) (n : Nat) : rowsA L n ++ aenc (L n) = rowsA L (n + 1) := by
  unfold rowsA; rw [List.range_succ, List.flatMap_append]; simp
theorem RdA_of_own {w : World} {base : Nat} {e : TypeId} {ao : Option Addr} {n cap : Nat} {L : Nat → Ag} (h : w.ownsRow base e 2 (.slice ao n cap) n (rowsA L n)) : RdA w ao n cap L :=
  (Rd_flat (fun _ => aenc_len _) h).congr fun i _ j hj => aenc_get _ j hj
/-- New memory that holds them. -/
def OwnA (w : World) (n : Nat) (L : Nat → Ag) (e : Ending) (w' : World) : Prop :=
  ∃ v, e = .returned v ∧ ∃ ao cap, v = .slice ao n cap ∧ w'.ownsRow w.heap.size 28 2 (.slice ao n cap) n (rowsA L n) ∧ Below w.heap.size w w'

theorem rowsA_set (L : Nat → Ag) (n k : Nat) (hk : k < n) (y : Ag) : (((rowsA L n).set (k * 2) (.int .i64 y.born)).set (k * 2 + 1) (.int .i64 y.used)) = rowsA (fun i => if i = k then y else L i) n := by
  unfold rowsA
  rw [flat_set2 _ (fun _ => aenc_len _) n k hk]
  refine flatR_congr fun i hi => ?_
  by_cases e : i = k
  · subst e; simp [aenc]
  · simp [e]
section
variable {H : Type} {enc : TypeId × Value → H} {w : World} {base : Nat} {spare : Nat → Bool} {held : Bool}
theorem open_ages8 {ao : Option Addr} {len cap : Nat} {d : DataW H} {p : List MemPlace} (h : DataW.Trod enc Try.prog w base spare held 29 (.slice ao len cap) d p) : ∃ L : Nat → Ag, RdA w ao len cap L := by
  obtain ⟨L, hL⟩ := open_rdF Try.underlying29 Try.underlying58 (by kernel_rfl) (by kernel_rfl) (by decide) (fun i f hf => by
    match i, hf with
    | 0, hf => injection hf with hf; subst hf; exact Try.underlying3
    | 1, hf => injection hf with hf; subst hf; exact Try.underlying3
    | i + 2, hf => simp at hf) h
  refine ⟨fun i => ⟨L i 0, L i 1⟩, Rd.congr hL fun i hi j hj => ?_⟩
  have hj' : j < 2 := hj
  have : j = 0 ∨ j = 1 := by omega
  rcases this with rfl | rfl <;> rfl
end

theorem toAge_calls (x : Ag) (w : World) : Calls Try.prog 48 #[.agg #[.int .i64 x.born, .int .i64 x.used]] w fun e w' => e = .returned (.agg #[.int .i64 x.born, .int .i64 x.used]) ∧ Below w.heap.size w w' := by
  go_enter Try.func48, Try.ntmps48
  go_wp2
  refine bodyPost_ret (v := .agg #[.int .i64 x.born, .int .i64 x.used]) (by simp [results, Try.results48, go_sem]) rfl ?_
  exact ⟨rfl, by go_grown⟩

/-- The copy after k rounds. -/
def copyA (L : Nat → Ag) (n k : Nat) : List Value := (List.range n).flatMap fun i => if i < k then aenc (L i) else [.int .i64 0, .int .i64 0]
theorem copyA_len (L : Nat → Ag) (k i : Nat) : (if i < k then aenc (L i) else [Value.int .i64 0, .int .i64 0]).length = 2 := by split <;> rfl
theorem copyA_zero (L : Nat → Ag) (n : Nat) : copyA L n 0 = (List.range n).flatMap fun _ => [Value.int .i64 0, .int .i64 0] := flatR_congr fun i _ => by simp
theorem copyA_all (L : Nat → Ag) (n : Nat) : copyA L n n = rowsA L n := flatR_congr fun i hi => by simp [hi]
theorem copyA_step (L : Nat → Ag) (n k : Nat) (hk : k < n) : (((copyA L n k).set (k * 2) (.int .i64 (L k).born)).set (k * 2 + 1) (.int .i64 (L k).used)) = copyA L n (k + 1) := by
  unfold copyA
  rw [flat_set2 _ (copyA_len L k) n k hk]
  refine flatR_congr fun i hi => ?_
  by_cases e : i = k
  · subst e; simp [aenc]
  · rw [if_neg e]
    have : (i < k + 1) ↔ (i < k) := by omega
    simp [this]

theorem toAgeS_calls (ao : Option Addr) (n cap : Nat) (L : Nat → Ag) (w : World) (h : RdA w ao n cap L) (hn : n ≤ 1048576) :
    Calls Try.prog 21 #[.slice ao n cap] w (OwnA w n L) := by
  obtain ⟨i0, hi, hz0, hz1, hz2⟩ := info_parts infoAge
  have hlen := h.len
  go_enter Try.func21, Try.ntmps21
  go_wp2_with (at_make; refine wpList_make_full _ rfl _ _ 23 rfl w.heap.size 28 i0 (.agg #[.int .i64 0, .int .i64 0]) 2 Try.underlying23 hi hz0 hz1 _ _ _ _ n rfl rfl rfl rfl (by rw [hz2]; omega) (by unfold maxLen; omega) (Nat.le_refl _) ?_)
  intro w1 hown hgrow
  have hown1 : w1.ownsRow w.heap.size 28 2 (.slice (some ⟨w.heap.size, 0, none⟩) n n) n (copyA L n 0) := by
    rw [copyA_zero, ← made_flat _ 2 (by omega) rfl]; exact hown
  have B1 : Below w.heap.size w w1 := below_of_grown hgrow (Nat.le_refl _) (fun g hg => by simp at hg)
  clear hown hgrow hi hz0 hz1 hz2
  go_wp2
  go_loopw [4] (fun i wr => ∃ k : Nat, k ≤ n ∧ i = .int .i64 k ∧ wr.ownsRow w.heap.size 28 2 (.slice (some ⟨w.heap.size, 0, none⟩) n n) n (copyA L n k) ∧ Below w.heap.size w wr)
    (fun i _ => n - (intOf i).toNat)
  case atStart => exact ⟨0, Nat.zero_le _, rfl, hown1, B1⟩
  case round =>
    obtain ⟨k, hk, rfl, hown, hB⟩ := hrel
    by_cases hlt : k < n
    · obtain ⟨b, off, rfl, hb, hc⟩ := h.pos (by omega)
      obtain ⟨q0, q1⟩ := hc k hlt
      have c0 := (hB.cell (p := ⟨b, off + k * 2, none⟩) hb).trans q0
      have c1 := (hB.cell (p := ⟨b, off + k * 2 + 1, none⟩) hb).trans q1
      have i0 : (k : Int) < (n : Int) := by omega
      clear hc q0 q1
      go_wp2_with fail
      refine (toAge_calls (L k) _).mono ?_
      rintro e w2 ⟨rfl, hb2⟩
      have own2 := own_below hown hb2
      have hB2 := hB.trans (hb2.mono hB.size)
      have lt2 := (own2.lt w.heap.size (by simp [Value.ownBlock])).2
      obtain ⟨v0, d0⟩ := own_some own2 (k * 2) (by omega)
      have z0 := own2.frozenAt (k * 2)
      obtain ⟨v1, d1⟩ := own_some own2 (k * 2 + 1) (by omega)
      have z1 := own2.frozenAt (k * 2 + 1)
      have own3 := ((own2.stored (k * 2) (.int .i64 (L k).born)).1.stored (k * 2 + 1) (.int .i64 (L k).used)).1
      rw [copyA_step L n k hlt] at own3
      have H3 := Lib.hid own3
      clear own3 own2 hown
      go_wp2
      go_roundw
      case rel => exact ⟨k + 1, by omega, by go_num, H3.out, by go_grown⟩
      case measure => simp [intOf]; omega
    · obtain rfl : k = n := by omega
      rw [copyA_all] at hown
      have HO := Lib.hid hown
      clear hown h
      go_wp2
      go_ret
      exact ⟨_, rfl, _, _, rfl, HO.out, hB⟩

theorem szAgeS_calls (ao : Option Addr) (n cap : Nat) (l : Int) (w : World) (hn : n ≤ 9223372036854775807) (h : 0 ≤ l - n) (hl : l ≤ 1048576) : Calls Try.prog 20 #[.slice ao n cap, .int .i64 l] w fun e w' => e = .returned (.int .i64 (l - n)) ∧ w = w' := by
  go_enter Try.func20, Try.ntmps20
  go_wp2
  go_ret
  exact ⟨rfl, rfl⟩
theorem szAgeS_neg (ao : Option Addr) (n cap : Nat) (l : Int) (w : World) (hn : n ≤ 9223372036854775807) (h : l - n < 0) (hl : 0 ≤ l) : Calls Try.prog 20 #[.slice ao n cap, .int .i64 l] w fun e w' => e = .returned (.int .i64 (-1)) ∧ w = w' := by
  go_enter Try.func20, Try.ntmps20
  go_wp2
  go_ret
  exact ⟨rfl, rfl⟩
theorem eqAge_calls (x : Ag) (w : World) : Calls Try.prog 49 #[.agg #[.int .i64 x.born, .int .i64 x.used], .agg #[.int .i64 x.born, .int .i64 x.used]] w (SaysTrue w) := by
  go_enter Try.func49, Try.ntmps49
  go_wp2
  go_ret
  exact ⟨rfl, by go_grown⟩
theorem eqAgeS_calls (a b : Option Addr) (n c d : Nat) (L : Nat → Ag) (w : World) (h : RdA w a n c L) (h' : RdA w b n d L) :
    Calls Try.prog 22 #[.slice a n c, .slice b n d] w (SaysTrue w) := by
  have hlen := h.len
  go_enter Try.func22, Try.ntmps22
  go_wp2
  go_loopw [5] (fun i wr => ∃ k : Nat, k ≤ n ∧ i = .int .i64 k ∧ Below w.heap.size w wr) (fun i _ => n - (intOf i).toNat)
  case atStart => exact ⟨0, Nat.zero_le _, rfl, Below.refl _ _⟩
  case round =>
    obtain ⟨k, hk, rfl, hB⟩ := hrel
    by_cases hlt : k < n
    · obtain ⟨b1, o1, rfl, hb1, hc1⟩ := h.pos (by omega)
      obtain ⟨b2, o2, rfl, hb2', hc2⟩ := h'.pos (by omega)
      obtain ⟨q0, q1⟩ := hc1 k hlt
      obtain ⟨r0, r1⟩ := hc2 k hlt
      have g0 := (hB.cell (p := ⟨b1, o1 + k * 2, none⟩) hb1).trans q0
      have g1 := (hB.cell (p := ⟨b1, o1 + k * 2 + 1, none⟩) hb1).trans q1
      have g2 := (hB.cell (p := ⟨b2, o2 + k * 2, none⟩) hb2').trans r0
      have g3 := (hB.cell (p := ⟨b2, o2 + k * 2 + 1, none⟩) hb2').trans r1
      have i0 : (k : Int) < (n : Int) := by omega
      have hz := hB.size
      clear hc1 hc2
      go_wp2_with fail
      go_region_held3 (fun w' => w'.cell? ⟨b1, o1 + k * 2, none⟩ = some (.int .i64 (L k).born) ∧ w'.cell? ⟨b1, o1 + k * 2 + 1, none⟩ = some (.int .i64 (L k).used) ∧ w'.cell? ⟨b2, o2 + k * 2, none⟩ = some (.int .i64 (L k).born) ∧ w'.cell? ⟨b2, o2 + k * 2 + 1, none⟩ = some (.int .i64 (L k).used)) (go_keep)
        (first | (go_at_call 49; refine (eqAge_calls _ _).mono ?_; rintro e w2 ⟨rfl, hb2⟩; have hB2 : Below w.heap.size w w2 := (below_drew hB).trans (hb2.mono hz); have s0 := (hB2.cell (p := ⟨b1, o1 + k * 2, none⟩) hb1).trans q0; have s1 := (hB2.cell (p := ⟨b1, o1 + k * 2 + 1, none⟩) hb1).trans q1; have s2 := (hB2.cell (p := ⟨b2, o2 + k * 2, none⟩) hb2').trans r0; have s3 := (hB2.cell (p := ⟨b2, o2 + k * 2 + 1, none⟩) hb2').trans r1))
      go_wp2
      go_roundw
      case rel => exact ⟨k + 1, by omega, by go_num, hB2⟩
      case measure => simp [intOf]; omega
    · go_wp2
      go_ret
      exact ⟨rfl, hB⟩

/-- The marks. -/
def markA (k : Int) (i : Nat) : List Value := [.int .i64 (k + 2 * (i : Int)), .int .i64 (k + 2 * (i : Int) + 1)]
theorem markA_len (k : Int) (i : Nat) : (markA k i).length = 2 := rfl
def marksA (k : Int) (n : Nat) : List Value := (List.range n).flatMap (markA k)
theorem markAgeS_calls {base : Nat} {ao : Option Addr} {n c cap : Nat} (k : Int) (L : Nat → Ag) (w : World) (h : w.ownsRow base 28 2 (.slice ao n cap) n (rowsA L n)) (hn : n ≤ 1048576) (hk : 0 ≤ k) (hk1 : k ≤ 10000000) :
    Calls Try.prog 31 #[.slice ao n c, .int .i64 k] w fun e w' => e = .returned (.int .i64 (k + 2 * n)) ∧ w'.ownsRow base 28 2 (.slice ao n cap) n (marksA k n) ∧ w.grownBy w' (Value.slice ao n cap).ownBlock := by
  have hl : ∀ j i, (if i < j then markA k i else aenc (L i)).length = 2 := fun j i => by split <;> rfl
  have h0 : rowsA L n = (List.range n).flatMap fun i => if i < 0 then markA k i else aenc (L i) := flatR_congr fun i _ => by simp
  have h1 : ((List.range n).flatMap fun i => if i < n then markA k i else aenc (L i)) = marksA k n := flatR_congr fun i hi => by simp [hi]
  have hst : ∀ j, j < n → ((((List.range n).flatMap fun i => if i < j then markA k i else aenc (L i)).set (j * 2) (.int .i64 (k + 2 * (j : Int)))).set (j * 2 + 1) (.int .i64 (k + 2 * (j : Int) + 1))) = (List.range n).flatMap fun i => if i < j + 1 then markA k i else aenc (L i) := by
    intro j hj
    rw [flat_set2 _ (hl j) n j hj]
    refine flatR_congr fun i hi => ?_
    by_cases e : i = j
    · subst e; simp [markA]
    · rw [if_neg e]
      have : (i < j + 1) ↔ (i < j) := by omega
      simp [this]
  have H0 := Lib.hid h0
  have H1 := Lib.hid h1
  have HST := Lib.hid hst
  clear hl h0 h1 hst
  go_enter Try.func31, Try.ntmps31
  go_wp2
  go_loopw [1, 5] (fun q i wr => ∃ j : Nat, j ≤ n ∧ i = .int .i64 j ∧ q = .int .i64 (k + 2 * j) ∧ wr.ownsRow base 28 2 (.slice ao n cap) n ((List.range n).flatMap fun i => if i < j then markA k i else aenc (L i)) ∧ w.grownBy wr (Value.slice ao n cap).ownBlock)
    (fun _ i _ => n - (intOf i).toNat)
  case atStart => exact ⟨0, Nat.zero_le _, rfl, by simp, by rw [← H0.out]; exact h, grown_reflA _ _⟩
  case round =>
    obtain ⟨j, hj, rfl, rfl, hO, hG⟩ := hrel
    by_cases hlt : j < n
    · obtain ⟨g, cap', hf⟩ := own_form hO (by omega)
      injection hf with e1 e2 e3
      subst e1 e3
      obtain ⟨u0, hu0⟩ := own_some hO (j * 2) (by omega)
      have hf0 := hO.frozenAt (j * 2)
      obtain ⟨u1, hu1⟩ := own_some hO (j * 2 + 1) (by omega)
      have hf1 := hO.frozenAt (j * 2 + 1)
      have s1 := hO.stored (j * 2) (.int .i64 (k + 2 * j))
      have s2 := s1.1.stored (j * 2 + 1) (.int .i64 (k + 2 * j + 1))
      have O := s2.1
      rw [HST.out j hlt] at O
      have H2 := Lib.hid O
      have H3 := Lib.hid (grown_trans (grown_trans hG s1.2 (fun x hx => .inr hx)) s2.2 (fun x hx => .inr hx))
      clear s1 s2 hO hG h O
      go_wp2
      go_roundw
      case rel => exact ⟨j + 1, by omega, by go_num, by congr 1; omega, H2.out, H3.out⟩
      case measure => simp [intOf]; omega
    · obtain rfl : j = n := by omega
      rw [H1.out] at hO
      have HO := Lib.hid hO
      have HG := Lib.hid hG
      clear hO hG h
      go_wp2
      go_ret
      exact ⟨rfl, HO.out, HG.out⟩
theorem heldAgeS_calls {base : Nat} {ao : Option Addr} {n c cap : Nat} (k : Int) (w : World) (h : w.ownsRow base 28 2 (.slice ao n cap) n (marksA k n)) (hn : n ≤ 1048576) (hk : 0 ≤ k) (hk1 : k ≤ 10000000) :
    Calls Try.prog 32 #[.slice ao n c, .int .i64 k] w fun e w' => e = .returned (.int .i64 (k + 2 * n)) ∧ Below w.heap.size w w' := by
  go_enter Try.func32, Try.ntmps32
  go_wp2
  go_loopw [1, 5] (fun q i wr => ∃ j : Nat, j ≤ n ∧ i = .int .i64 j ∧ q = .int .i64 (k + 2 * j) ∧ Below w.heap.size w wr)
    (fun _ i _ => n - (intOf i).toNat)
  case atStart => exact ⟨0, Nat.zero_le _, rfl, by simp, Below.refl _ _⟩
  case round =>
    obtain ⟨j, hj, rfl, rfl, hB⟩ := hrel
    by_cases hlt : j < n
    · obtain ⟨g, cap', hf⟩ := own_form h (by omega)
      injection hf with e1 e2 e3
      subst e1 e3
      have hO := own_below h hB
      have hc0 := hO.cellAt (j * 2) (by omega)
      rw [show (marksA k n)[j * 2]? = some (.int .i64 (k + 2 * (j : Int))) from flatR_get _ 2 (markA_len k) n j 0 hlt (by omega)] at hc0
      have hc1 := hO.cellAt (j * 2 + 1) (by omega)
      rw [show (marksA k n)[j * 2 + 1]? = some (.int .i64 (k + 2 * (j : Int) + 1)) from flatR_get _ 2 (markA_len k) n j 1 hlt (by omega)] at hc1
      have i0 : (j : Int) < (n : Int) := by omega
      clear hO h
      go_wp2
      go_roundw
      case rel => exact ⟨j + 1, by omega, by go_num, by congr 1; omega, by go_grown⟩
      case measure => simp [intOf]; omega
    · obtain rfl : j = n := by omega
      go_wp2
      go_ret
      exact ⟨rfl, hB⟩

/-- The drawn laws' comparison. -/
theorem equalAges_calls (a b : Option Addr) (n c d : Nat) (L : Nat → Ag) (w : World) (h : RdA w a n c L) (h' : RdA w b n d L) :
    Calls Try.prog 29 #[.slice a n c, .slice b n d] w (SaysTrue w) := by
  have hlen := h.len
  go_enter Try.func29, Try.ntmps29
  go_wp2
  go_loopw [5] (fun i wr => ∃ k : Nat, k ≤ n ∧ i = .int .i64 k ∧ Below w.heap.size w wr) (fun i _ => n - (intOf i).toNat)
  case atStart => exact ⟨0, Nat.zero_le _, rfl, Below.refl _ _⟩
  case round =>
    obtain ⟨k, hk, rfl, hB⟩ := hrel
    by_cases hlt : k < n
    · obtain ⟨b1, o1, rfl, hb1, hc1⟩ := h.pos (by omega)
      obtain ⟨b2, o2, rfl, hb2', hc2⟩ := h'.pos (by omega)
      obtain ⟨q0, q1⟩ := hc1 k hlt
      obtain ⟨r0, r1⟩ := hc2 k hlt
      have g0 := (hB.cell (p := ⟨b1, o1 + k * 2, none⟩) hb1).trans q0
      have g1 := (hB.cell (p := ⟨b1, o1 + k * 2 + 1, none⟩) hb1).trans q1
      have g2 := (hB.cell (p := ⟨b2, o2 + k * 2, none⟩) hb2').trans r0
      have g3 := (hB.cell (p := ⟨b2, o2 + k * 2 + 1, none⟩) hb2').trans r1
      have i0 : (k : Int) < (n : Int) := by omega
      clear hc1 hc2 q0 q1 r0 r1
      go_wp2
      go_quiet (fail)
      go_wp2
      go_roundw
      case rel => exact ⟨k + 1, by omega, by go_num, below_drewN hB _⟩
      case measure => simp [intOf]; omega
    · go_wp2
      go_ret
      exact ⟨rfl, hB⟩
end Go.Proofs.Ytmkpdcikpjpeaaa
