/- Leases of the laws: copies, comparisons, marks. -/
import Derived.Test.YthbemokpdcipaaaPackPlain
import Derived.Test.YthbemokpdcipaaaRowsOf
import Derived.Test.YthbemokpdcipaaaOpenF
import Derived.StillTailTactics
import Derived.Deep.RegionHeld3
import Derived.Deep.RegionWith
import Derived.Deep.QuietTactic
import Derived.BigQuiet
namespace Go.Proofs.Ythbemokpdcipaaa
open Go.ChangeShapes Go.WideShapes Go.ChangeAt Go.RowKit
set_option linter.unusedVariables false

theorem grown_reflL (w : World) (row : Option Nat) : w.grownBy w row := ⟨rfl, rfl, rfl, Nat.le_refl _, fun _ _ _ => rfl⟩
def lcell (x : Lz) (j : Nat) : Value := match j with | 0 => .int .i64 x.conn | 1 => .int .i64 x.owner | 2 => .int .i64 x.frm | _ => .int .i64 x.til
/-- A slice of them. -/
def RdL (w : World) (ao : Option Addr) (n cap : Nat) (L : Nat → Lz) : Prop := Rd w 4 ao n cap (fun i j => lcell (L i) j)
theorem RdL.below {w w' : World} {ao : Option Addr} {n cap : Nat} {L : Nat → Lz} (h : RdL w ao n cap L) (hb : Below w.heap.size w w') : RdL w' ao n cap L := Rd.below h hb
theorem RdL.len {w : World} {ao : Option Addr} {n cap : Nat} {L : Nat → Lz} (h : RdL w ao n cap L) : n ≤ 9223372036854775807 := Rd.len h
theorem RdL.pos {w : World} {ao : Option Addr} {n cap : Nat} {L : Nat → Lz} (h : RdL w ao n cap L) (hn : 0 < n) : ∃ b off, ao = some ⟨b, off, none⟩ ∧ b < w.heap.size ∧ ∀ i, i < n → w.cell? ⟨b, off + i * 4, none⟩ = some (.int .i64 (L i).conn) ∧ w.cell? ⟨b, off + i * 4 + 1, none⟩ = some (.int .i64 (L i).owner) ∧ w.cell? ⟨b, off + i * 4 + 2, none⟩ = some (.int .i64 (L i).frm) ∧ w.cell? ⟨b, off + i * 4 + 3, none⟩ = some (.int .i64 (L i).til) := by
  obtain ⟨b, off, h1, h2, h3⟩ := Rd.pos h hn
  exact ⟨b, off, h1, h2, fun i hi => ⟨h3 i hi 0 (by omega), h3 i hi 1 (by omega), h3 i hi 2 (by omega), h3 i hi 3 (by omega)⟩⟩

def lenc (x : Lz) : List Value := [.int .i64 x.conn, .int .i64 x.owner, .int .i64 x.frm, .int .i64 x.til]
theorem lenc_len (x : Lz) : (lenc x).length = 4 := rfl
theorem infoLease : (Try.prog.info? 29).map (fun i => (i.zero, i.size, i.bytes)) = some (some (.agg #[.int .i64 0, .int .i64 0, .int .i64 0, .int .i64 0]), 4, 32) := by kernel_rfl
theorem lenc_get (x : Lz) (j : Nat) (hj : j < 4) : (lenc x).getD j undef = lcell x j := by
  have : j = 0 ∨ j = 1 ∨ j = 2 ∨ j = 3 := by omega
  rcases this with rfl | rfl | rfl | rfl <;> rfl
def rowsL (L : Nat → Lz) (n : Nat) : List Value := (List.range n).flatMap fun i => lenc (L i)
theorem rowsL_congr {L M : Nat → Lz} {n : Nat} (h : ∀ i, i < n → L i = M i) : rowsL L n = rowsL M n := flatR_congr fun i hi => by rw [h i hi]
theorem rowsL_rows (L : Nat → Lz) (n : Nat) : rows 4 n (fun i j => lcell (L i) j) = rowsL L n := flatR_congr fun i _ => rfl
theorem rowsL_snoc (L : Nat → Lz) (n : Nat) (y : Lz) : rowsL L n ++ lenc y = rowsL (fun i => if i = n then y else L i) (n + 1) := by
  unfold rowsL
  rw [List.range_succ, List.flatMap_append]
  congr 1
  · exact flatR_congr fun i hi => by
      have : ¬ i = n := by omega
      simp [this]
  · simp
theorem rowsL_step (L : Nat → Lz) (n : Nat) : rowsL L n ++ lenc (L n) = rowsL L (n + 1) := by
  unfold rowsL; rw [List.range_succ, List.flatMap_append]; simp
theorem RdL_of_own {w : World} {base : Nat} {e : TypeId} {ao : Option Addr} {n cap : Nat} {L : Nat → Lz} (h : w.ownsRow base e 4 (.slice ao n cap) n (rowsL L n)) : RdL w ao n cap L :=
  (Rd_flat (fun _ => lenc_len _) h).congr fun i _ j hj => lenc_get _ j hj
/-- New memory that holds them. -/
def OwnL (w : World) (n : Nat) (L : Nat → Lz) (e : Ending) (w' : World) : Prop :=
  ∃ v, e = .returned v ∧ ∃ ao cap, v = .slice ao n cap ∧ w'.ownsRow w.heap.size 29 4 (.slice ao n cap) n (rowsL L n) ∧ Below w.heap.size w w'

theorem rowsL_set (L : Nat → Lz) (n k : Nat) (hk : k < n) (y : Lz) : (((((rowsL L n).set (k * 4) (.int .i64 y.conn)).set (k * 4 + 1) (.int .i64 y.owner)).set (k * 4 + 2) (.int .i64 y.frm)).set (k * 4 + 3) (.int .i64 y.til)) = rowsL (fun i => if i = k then y else L i) n := by
  unfold rowsL
  rw [flat_set4 _ (fun _ => lenc_len _) n k hk]
  refine flatR_congr fun i hi => ?_
  by_cases e : i = k
  · subst e; simp [lenc]
  · simp [e]
section
variable {H : Type} {enc : TypeId × Value → H} {w : World} {base : Nat} {spare : Nat → Bool} {held : Bool}
theorem open_leases8 {ao : Option Addr} {len cap : Nat} {d : DataW H} {p : List MemPlace} (h : DataW.Trod enc Try.prog w base spare held 31 (.slice ao len cap) d p) : ∃ L : Nat → Lz, RdL w ao len cap L := by
  obtain ⟨L, hL⟩ := open_rdF Try.underlying31 Try.underlying56 (by kernel_rfl) (by kernel_rfl) (by decide) (fun i f hf => by
    match i, hf with
    | 0, hf => injection hf with hf; subst hf; exact Try.underlying3
    | 1, hf => injection hf with hf; subst hf; exact Try.underlying3
    | 2, hf => injection hf with hf; subst hf; exact Try.underlying3
    | 3, hf => injection hf with hf; subst hf; exact Try.underlying3
    | i + 4, hf => simp at hf) h
  refine ⟨fun i => ⟨L i 0, L i 1, L i 2, L i 3⟩, Rd.congr hL fun i hi j hj => ?_⟩
  have hj' : j < 4 := hj
  have : j = 0 ∨ j = 1 ∨ j = 2 ∨ j = 3 := by omega
  rcases this with rfl | rfl | rfl | rfl <;> rfl
end

theorem toLease_calls (x : Lz) (w : World) : Calls Try.prog 46 #[.agg #[.int .i64 x.conn, .int .i64 x.owner, .int .i64 x.frm, .int .i64 x.til]] w fun e w' => e = .returned (.agg #[.int .i64 x.conn, .int .i64 x.owner, .int .i64 x.frm, .int .i64 x.til]) ∧ Below w.heap.size w w' := by
  go_enter Try.func46, Try.ntmps46
  go_wp2
  refine bodyPost_ret (v := .agg #[.int .i64 x.conn, .int .i64 x.owner, .int .i64 x.frm, .int .i64 x.til]) (by simp [results, Try.results46, go_sem]) rfl ?_
  exact ⟨rfl, by go_grown⟩

/-- The copy after k rounds. -/
def copyL (L : Nat → Lz) (n k : Nat) : List Value := (List.range n).flatMap fun i => if i < k then lenc (L i) else [.int .i64 0, .int .i64 0, .int .i64 0, .int .i64 0]
theorem copyL_len (L : Nat → Lz) (k i : Nat) : (if i < k then lenc (L i) else [Value.int .i64 0, .int .i64 0, .int .i64 0, .int .i64 0]).length = 4 := by split <;> rfl
theorem copyL_zero (L : Nat → Lz) (n : Nat) : copyL L n 0 = (List.range n).flatMap fun _ => [Value.int .i64 0, .int .i64 0, .int .i64 0, .int .i64 0] := flatR_congr fun i _ => by simp
theorem copyL_all (L : Nat → Lz) (n : Nat) : copyL L n n = rowsL L n := flatR_congr fun i hi => by simp [hi]
theorem copyL_step (L : Nat → Lz) (n k : Nat) (hk : k < n) : (((((copyL L n k).set (k * 4) (.int .i64 (L k).conn)).set (k * 4 + 1) (.int .i64 (L k).owner)).set (k * 4 + 2) (.int .i64 (L k).frm)).set (k * 4 + 3) (.int .i64 (L k).til)) = copyL L n (k + 1) := by
  unfold copyL
  rw [flat_set4 _ (copyL_len L k) n k hk]
  refine flatR_congr fun i hi => ?_
  by_cases e : i = k
  · subst e; simp [lenc]
  · rw [if_neg e]
    have : (i < k + 1) ↔ (i < k) := by omega
    simp [this]

theorem toLeaseS_calls (ao : Option Addr) (n cap : Nat) (L : Nat → Lz) (w : World) (h : RdL w ao n cap L) (hn : n ≤ 1048576) :
    Calls Try.prog 18 #[.slice ao n cap] w (OwnL w n L) := by
  obtain ⟨i0, hi, hz0, hz1, hz2⟩ := info_parts infoLease
  have hlen := h.len
  go_enter Try.func18, Try.ntmps18
  go_wp2_with (at_make; refine wpList_make_full _ rfl _ _ 23 rfl w.heap.size 29 i0 (.agg #[.int .i64 0, .int .i64 0, .int .i64 0, .int .i64 0]) 4 Try.underlying23 hi hz0 hz1 _ _ _ _ n rfl rfl rfl rfl (by rw [hz2]; omega) (by unfold maxLen; omega) (Nat.le_refl _) ?_)
  intro w1 hown hgrow
  have hown1 : w1.ownsRow w.heap.size 29 4 (.slice (some ⟨w.heap.size, 0, none⟩) n n) n (copyL L n 0) := by
    rw [copyL_zero, ← made_flat _ 4 (by omega) rfl]; exact hown
  have B1 : Below w.heap.size w w1 := below_of_grown hgrow (Nat.le_refl _) (fun g hg => by simp at hg)
  clear hown hgrow hi hz0 hz1 hz2
  go_wp2
  go_loopw [4] (fun i wr => ∃ k : Nat, k ≤ n ∧ i = .int .i64 k ∧ wr.ownsRow w.heap.size 29 4 (.slice (some ⟨w.heap.size, 0, none⟩) n n) n (copyL L n k) ∧ Below w.heap.size w wr)
    (fun i _ => n - (intOf i).toNat)
  case atStart => exact ⟨0, Nat.zero_le _, rfl, hown1, B1⟩
  case round =>
    obtain ⟨k, hk, rfl, hown, hB⟩ := hrel
    by_cases hlt : k < n
    · obtain ⟨b, off, rfl, hb, hc⟩ := h.pos (by omega)
      obtain ⟨q0, q1, q2, q3⟩ := hc k hlt
      have c0 := (hB.cell (p := ⟨b, off + k * 4, none⟩) hb).trans q0
      have c1 := (hB.cell (p := ⟨b, off + k * 4 + 1, none⟩) hb).trans q1
      have c2 := (hB.cell (p := ⟨b, off + k * 4 + 2, none⟩) hb).trans q2
      have c3 := (hB.cell (p := ⟨b, off + k * 4 + 3, none⟩) hb).trans q3
      have i0 : (k : Int) < (n : Int) := by omega
      clear hc q0 q1 q2 q3
      go_wp2_with fail
      refine (toLease_calls (L k) _).mono ?_
      rintro e w2 ⟨rfl, hb2⟩
      have own2 := own_below hown hb2
      have hB2 := hB.trans (hb2.mono hB.size)
      have lt2 := (own2.lt w.heap.size (by simp [Value.ownBlock])).2
      obtain ⟨v0, d0⟩ := own_some own2 (k * 4) (by omega)
      have z0 := own2.frozenAt (k * 4)
      obtain ⟨v1, d1⟩ := own_some own2 (k * 4 + 1) (by omega)
      have z1 := own2.frozenAt (k * 4 + 1)
      obtain ⟨v2, d2⟩ := own_some own2 (k * 4 + 2) (by omega)
      have z2 := own2.frozenAt (k * 4 + 2)
      obtain ⟨v3, d3⟩ := own_some own2 (k * 4 + 3) (by omega)
      have z3 := own2.frozenAt (k * 4 + 3)
      have own3 := ((((own2.stored (k * 4) (.int .i64 (L k).conn)).1.stored (k * 4 + 1) (.int .i64 (L k).owner)).1.stored (k * 4 + 2) (.int .i64 (L k).frm)).1.stored (k * 4 + 3) (.int .i64 (L k).til)).1
      rw [copyL_step L n k hlt] at own3
      have H3 := Lib.hid own3
      clear own3 own2 hown
      go_wp2
      go_roundw
      case rel => exact ⟨k + 1, by omega, by go_num, H3.out, by go_grown⟩
      case measure => simp [intOf]; omega
    · obtain rfl : k = n := by omega
      rw [copyL_all] at hown
      have HO := Lib.hid hown
      clear hown h
      go_wp2
      go_ret
      exact ⟨_, rfl, _, _, rfl, HO.out, hB⟩

theorem szLeaseS_calls (ao : Option Addr) (n cap : Nat) (l : Int) (w : World) (hn : n ≤ 9223372036854775807) (h : 0 ≤ l - n) (hl : l ≤ 1048576) : Calls Try.prog 17 #[.slice ao n cap, .int .i64 l] w fun e w' => e = .returned (.int .i64 (l - n)) ∧ w = w' := by
  go_enter Try.func17, Try.ntmps17
  go_wp2
  go_ret
  exact ⟨rfl, rfl⟩
theorem szLeaseS_neg (ao : Option Addr) (n cap : Nat) (l : Int) (w : World) (hn : n ≤ 9223372036854775807) (h : l - n < 0) (hl : 0 ≤ l) : Calls Try.prog 17 #[.slice ao n cap, .int .i64 l] w fun e w' => e = .returned (.int .i64 (-1)) ∧ w = w' := by
  go_enter Try.func17, Try.ntmps17
  go_wp2
  go_ret
  exact ⟨rfl, rfl⟩
theorem eqLease_calls (x : Lz) (w : World) : Calls Try.prog 47 #[.agg #[.int .i64 x.conn, .int .i64 x.owner, .int .i64 x.frm, .int .i64 x.til], .agg #[.int .i64 x.conn, .int .i64 x.owner, .int .i64 x.frm, .int .i64 x.til]] w (SaysTrue w) := by
  go_enter Try.func47, Try.ntmps47
  go_wp2
  go_ret
  exact ⟨rfl, by go_grown⟩
theorem eqLeaseS_calls (a b : Option Addr) (n c d : Nat) (L : Nat → Lz) (w : World) (h : RdL w a n c L) (h' : RdL w b n d L) :
    Calls Try.prog 19 #[.slice a n c, .slice b n d] w (SaysTrue w) := by
  have hlen := h.len
  go_enter Try.func19, Try.ntmps19
  go_wp2
  go_loopw [5] (fun i wr => ∃ k : Nat, k ≤ n ∧ i = .int .i64 k ∧ Below w.heap.size w wr) (fun i _ => n - (intOf i).toNat)
  case atStart => exact ⟨0, Nat.zero_le _, rfl, Below.refl _ _⟩
  case round =>
    obtain ⟨k, hk, rfl, hB⟩ := hrel
    by_cases hlt : k < n
    · obtain ⟨b1, o1, rfl, hb1, hc1⟩ := h.pos (by omega)
      obtain ⟨b2, o2, rfl, hb2', hc2⟩ := h'.pos (by omega)
      obtain ⟨q0, q1, q2, q3⟩ := hc1 k hlt
      obtain ⟨r0, r1, r2, r3⟩ := hc2 k hlt
      have g0 := (hB.cell (p := ⟨b1, o1 + k * 4, none⟩) hb1).trans q0
      have g1 := (hB.cell (p := ⟨b1, o1 + k * 4 + 1, none⟩) hb1).trans q1
      have g2 := (hB.cell (p := ⟨b1, o1 + k * 4 + 2, none⟩) hb1).trans q2
      have g3 := (hB.cell (p := ⟨b1, o1 + k * 4 + 3, none⟩) hb1).trans q3
      have g4 := (hB.cell (p := ⟨b2, o2 + k * 4, none⟩) hb2').trans r0
      have g5 := (hB.cell (p := ⟨b2, o2 + k * 4 + 1, none⟩) hb2').trans r1
      have g6 := (hB.cell (p := ⟨b2, o2 + k * 4 + 2, none⟩) hb2').trans r2
      have g7 := (hB.cell (p := ⟨b2, o2 + k * 4 + 3, none⟩) hb2').trans r3
      have i0 : (k : Int) < (n : Int) := by omega
      have hz := hB.size
      clear hc1 hc2
      go_wp2_with fail
      go_region_held3 (fun w' => w'.cell? ⟨b1, o1 + k * 4, none⟩ = some (.int .i64 (L k).conn) ∧ w'.cell? ⟨b1, o1 + k * 4 + 1, none⟩ = some (.int .i64 (L k).owner) ∧ w'.cell? ⟨b1, o1 + k * 4 + 2, none⟩ = some (.int .i64 (L k).frm) ∧ w'.cell? ⟨b1, o1 + k * 4 + 3, none⟩ = some (.int .i64 (L k).til) ∧ w'.cell? ⟨b2, o2 + k * 4, none⟩ = some (.int .i64 (L k).conn) ∧ w'.cell? ⟨b2, o2 + k * 4 + 1, none⟩ = some (.int .i64 (L k).owner) ∧ w'.cell? ⟨b2, o2 + k * 4 + 2, none⟩ = some (.int .i64 (L k).frm) ∧ w'.cell? ⟨b2, o2 + k * 4 + 3, none⟩ = some (.int .i64 (L k).til)) (go_keep)
        (first | (go_at_call 47; refine (eqLease_calls _ _).mono ?_; rintro e w2 ⟨rfl, hb2⟩; have hB2 : Below w.heap.size w w2 := (below_drew hB).trans (hb2.mono hz); have s0 := (hB2.cell (p := ⟨b1, o1 + k * 4, none⟩) hb1).trans q0; have s1 := (hB2.cell (p := ⟨b1, o1 + k * 4 + 1, none⟩) hb1).trans q1; have s2 := (hB2.cell (p := ⟨b1, o1 + k * 4 + 2, none⟩) hb1).trans q2; have s3 := (hB2.cell (p := ⟨b1, o1 + k * 4 + 3, none⟩) hb1).trans q3; have s4 := (hB2.cell (p := ⟨b2, o2 + k * 4, none⟩) hb2').trans r0; have s5 := (hB2.cell (p := ⟨b2, o2 + k * 4 + 1, none⟩) hb2').trans r1; have s6 := (hB2.cell (p := ⟨b2, o2 + k * 4 + 2, none⟩) hb2').trans r2; have s7 := (hB2.cell (p := ⟨b2, o2 + k * 4 + 3, none⟩) hb2').trans r3))
      go_wp2
      go_roundw
      case rel => exact ⟨k + 1, by omega, by go_num, hB2⟩
      case measure => simp [intOf]; omega
    · go_wp2
      go_ret
      exact ⟨rfl, hB⟩

/-- The marks. -/
def markL (k : Int) (i : Nat) : List Value := [.int .i64 (k + 4 * (i : Int)), .int .i64 (k + 4 * (i : Int) + 1), .int .i64 (k + 4 * (i : Int) + 1 + 1), .int .i64 (k + 4 * (i : Int) + 1 + 1 + 1)]
theorem markL_len (k : Int) (i : Nat) : (markL k i).length = 4 := rfl
def marksL (k : Int) (n : Nat) : List Value := (List.range n).flatMap (markL k)
theorem markLeaseS_calls {base : Nat} {ao : Option Addr} {n c cap : Nat} (k : Int) (L : Nat → Lz) (w : World) (h : w.ownsRow base 29 4 (.slice ao n cap) n (rowsL L n)) (hn : n ≤ 1048576) (hk : 0 ≤ k) (hk1 : k ≤ 10000000) :
    Calls Try.prog 20 #[.slice ao n c, .int .i64 k] w fun e w' => e = .returned (.int .i64 (k + 4 * n)) ∧ w'.ownsRow base 29 4 (.slice ao n cap) n (marksL k n) ∧ w.grownBy w' (Value.slice ao n cap).ownBlock := by
  have hl : ∀ j i, (if i < j then markL k i else lenc (L i)).length = 4 := fun j i => by split <;> rfl
  have h0 : rowsL L n = (List.range n).flatMap fun i => if i < 0 then markL k i else lenc (L i) := flatR_congr fun i _ => by simp
  have h1 : ((List.range n).flatMap fun i => if i < n then markL k i else lenc (L i)) = marksL k n := flatR_congr fun i hi => by simp [hi]
  have hst : ∀ j, j < n → ((((((List.range n).flatMap fun i => if i < j then markL k i else lenc (L i)).set (j * 4) (.int .i64 (k + 4 * (j : Int)))).set (j * 4 + 1) (.int .i64 (k + 4 * (j : Int) + 1))).set (j * 4 + 2) (.int .i64 (k + 4 * (j : Int) + 1 + 1))).set (j * 4 + 3) (.int .i64 (k + 4 * (j : Int) + 1 + 1 + 1))) = (List.range n).flatMap fun i => if i < j + 1 then markL k i else lenc (L i) := by
    intro j hj
    rw [flat_set4 _ (hl j) n j hj]
    refine flatR_congr fun i hi => ?_
    by_cases e : i = j
    · subst e; simp [markL]
    · rw [if_neg e]
      have : (i < j + 1) ↔ (i < j) := by omega
      simp [this]
  have H0 := Lib.hid h0
  have H1 := Lib.hid h1
  have HST := Lib.hid hst
  clear hl h0 h1 hst
  go_enter Try.func20, Try.ntmps20
  go_wp2
  go_loopw [1, 5] (fun q i wr => ∃ j : Nat, j ≤ n ∧ i = .int .i64 j ∧ q = .int .i64 (k + 4 * j) ∧ wr.ownsRow base 29 4 (.slice ao n cap) n ((List.range n).flatMap fun i => if i < j then markL k i else lenc (L i)) ∧ w.grownBy wr (Value.slice ao n cap).ownBlock)
    (fun _ i _ => n - (intOf i).toNat)
  case atStart => exact ⟨0, Nat.zero_le _, rfl, by simp, by rw [← H0.out]; exact h, grown_reflL _ _⟩
  case round =>
    obtain ⟨j, hj, rfl, rfl, hO, hG⟩ := hrel
    by_cases hlt : j < n
    · obtain ⟨g, cap', hf⟩ := own_form hO (by omega)
      injection hf with e1 e2 e3
      subst e1 e3
      obtain ⟨u0, hu0⟩ := own_some hO (j * 4) (by omega)
      have hf0 := hO.frozenAt (j * 4)
      obtain ⟨u1, hu1⟩ := own_some hO (j * 4 + 1) (by omega)
      have hf1 := hO.frozenAt (j * 4 + 1)
      obtain ⟨u2, hu2⟩ := own_some hO (j * 4 + 2) (by omega)
      have hf2 := hO.frozenAt (j * 4 + 2)
      obtain ⟨u3, hu3⟩ := own_some hO (j * 4 + 3) (by omega)
      have hf3 := hO.frozenAt (j * 4 + 3)
      have s1 := hO.stored (j * 4) (.int .i64 (k + 4 * j))
      have s2 := s1.1.stored (j * 4 + 1) (.int .i64 (k + 4 * j + 1))
      have s3 := s2.1.stored (j * 4 + 2) (.int .i64 (k + 4 * j + 1 + 1))
      have s4 := s3.1.stored (j * 4 + 3) (.int .i64 (k + 4 * j + 1 + 1 + 1))
      have O := s4.1
      rw [HST.out j hlt] at O
      have H2 := Lib.hid O
      have H3 := Lib.hid (grown_trans (grown_trans (grown_trans (grown_trans hG s1.2 (fun x hx => .inr hx)) s2.2 (fun x hx => .inr hx)) s3.2 (fun x hx => .inr hx)) s4.2 (fun x hx => .inr hx))
      clear s1 s2 s3 s4 hO hG h O
      go_wp2
      go_roundw
      case rel => exact ⟨j + 1, by omega, by go_num, by congr 1; omega, H2.out, H3.out⟩
      case measure => simp [intOf]; omega
    · obtain rfl : j = n := by omega
      rw [H1.out] at hO
      have HO := Lib.hid hO
      have HG := Lib.hid hG
      clear hO hG h
      go_wp2
      go_ret
      exact ⟨rfl, HO.out, HG.out⟩
theorem heldLeaseS_calls {base : Nat} {ao : Option Addr} {n c cap : Nat} (k : Int) (w : World) (h : w.ownsRow base 29 4 (.slice ao n cap) n (marksL k n)) (hn : n ≤ 1048576) (hk : 0 ≤ k) (hk1 : k ≤ 10000000) :
    Calls Try.prog 21 #[.slice ao n c, .int .i64 k] w fun e w' => e = .returned (.int .i64 (k + 4 * n)) ∧ Below w.heap.size w w' := by
  go_enter Try.func21, Try.ntmps21
  go_wp2
  go_loopw [1, 5] (fun q i wr => ∃ j : Nat, j ≤ n ∧ i = .int .i64 j ∧ q = .int .i64 (k + 4 * j) ∧ Below w.heap.size w wr)
    (fun _ i _ => n - (intOf i).toNat)
  case atStart => exact ⟨0, Nat.zero_le _, rfl, by simp, Below.refl _ _⟩
  case round =>
    obtain ⟨j, hj, rfl, rfl, hB⟩ := hrel
    by_cases hlt : j < n
    · obtain ⟨g, cap', hf⟩ := own_form h (by omega)
      injection hf with e1 e2 e3
      subst e1 e3
      have hO := own_below h hB
      have hc0 := hO.cellAt (j * 4) (by omega)
      rw [show (marksL k n)[j * 4]? = some (.int .i64 (k + 4 * (j : Int))) from flatR_get _ 4 (markL_len k) n j 0 hlt (by omega)] at hc0
      have hc1 := hO.cellAt (j * 4 + 1) (by omega)
      rw [show (marksL k n)[j * 4 + 1]? = some (.int .i64 (k + 4 * (j : Int) + 1)) from flatR_get _ 4 (markL_len k) n j 1 hlt (by omega)] at hc1
      have hc2 := hO.cellAt (j * 4 + 2) (by omega)
      rw [show (marksL k n)[j * 4 + 2]? = some (.int .i64 (k + 4 * (j : Int) + 1 + 1)) from flatR_get _ 4 (markL_len k) n j 2 hlt (by omega)] at hc2
      have hc3 := hO.cellAt (j * 4 + 3) (by omega)
      rw [show (marksL k n)[j * 4 + 3]? = some (.int .i64 (k + 4 * (j : Int) + 1 + 1 + 1)) from flatR_get _ 4 (markL_len k) n j 3 hlt (by omega)] at hc3
      have i0 : (j : Int) < (n : Int) := by omega
      clear hO h
      go_wp2
      go_roundw
      case rel => exact ⟨j + 1, by omega, by go_num, by congr 1; omega, by go_grown⟩
      case measure => simp [intOf]; omega
    · obtain rfl : j = n := by omega
      go_wp2
      go_ret
      exact ⟨rfl, hB⟩

/-- The drawn laws' comparison. -/
theorem equalLeases_calls (a b : Option Addr) (n c d : Nat) (L : Nat → Lz) (w : World) (h : RdL w a n c L) (h' : RdL w b n d L) :
    Calls Try.prog 16 #[.slice a n c, .slice b n d] w (SaysTrue w) := by
  have hlen := h.len
  go_enter Try.func16, Try.ntmps16
  go_wp2
  go_loopw [5] (fun i wr => ∃ k : Nat, k ≤ n ∧ i = .int .i64 k ∧ Below w.heap.size w wr) (fun i _ => n - (intOf i).toNat)
  case atStart => exact ⟨0, Nat.zero_le _, rfl, Below.refl _ _⟩
  case round =>
    obtain ⟨k, hk, rfl, hB⟩ := hrel
    by_cases hlt : k < n
    · obtain ⟨b1, o1, rfl, hb1, hc1⟩ := h.pos (by omega)
      obtain ⟨b2, o2, rfl, hb2', hc2⟩ := h'.pos (by omega)
      obtain ⟨q0, q1, q2, q3⟩ := hc1 k hlt
      obtain ⟨r0, r1, r2, r3⟩ := hc2 k hlt
      have g0 := (hB.cell (p := ⟨b1, o1 + k * 4, none⟩) hb1).trans q0
      have g1 := (hB.cell (p := ⟨b1, o1 + k * 4 + 1, none⟩) hb1).trans q1
      have g2 := (hB.cell (p := ⟨b1, o1 + k * 4 + 2, none⟩) hb1).trans q2
      have g3 := (hB.cell (p := ⟨b1, o1 + k * 4 + 3, none⟩) hb1).trans q3
      have g4 := (hB.cell (p := ⟨b2, o2 + k * 4, none⟩) hb2').trans r0
      have g5 := (hB.cell (p := ⟨b2, o2 + k * 4 + 1, none⟩) hb2').trans r1
      have g6 := (hB.cell (p := ⟨b2, o2 + k * 4 + 2, none⟩) hb2').trans r2
      have g7 := (hB.cell (p := ⟨b2, o2 + k * 4 + 3, none⟩) hb2').trans r3
      have i0 : (k : Int) < (n : Int) := by omega
      clear hc1 hc2 q0 q1 q2 q3 r0 r1 r2 r3
      go_wp2
      go_quiet (fail)
      go_wp2
      go_roundw
      case rel => exact ⟨k + 1, by omega, by go_num, below_drewN hB _⟩
      case measure => simp [intOf]; omega
    · go_wp2
      go_ret
      exact ⟨rfl, hB⟩
end Go.Proofs.Ythbemokpdcipaaa
