/- The reference's reader of pseudo-random numbers: newReader, pick, one. What they return lies in its bounds; only the reader's own block turns. -/
import Derived.Test.YtcgnaokpdlbhbaaPure
import Derived.Deep.QuietTactic
import Derived.BigQuiet
import Derived.Laws.BitsAllLaws
namespace Go.Proofs.Ytcgnaokpdlbhbaa
open Go.ChangeShapes Go.WideShapes Go.ChangeAt Go.RowKit
set_option linter.unusedVariables false

theorem ofInt_i64 (a : Nat) (ha : a < 9223372036854775808) : (BitVec.ofInt 64 (a : Int)).toNat = a := by
  rw [BitVec.ofInt_natCast, BitVec.toNat_ofNat]; exact Nat.mod_eq_of_lt (by omega)
theorem i64_xor_nat (a b : Nat) (ha : a < 9223372036854775808) (hb : b < 9223372036854775808) : bits .xor .i64 (a : Int) (b : Int) = ((a ^^^ b : Nat) : Int) := by
  have hx : a ^^^ b < 2 ^ 63 := Nat.xor_lt_two_pow (by omega) (by omega)
  show IntKind.i64.wrap ((BitVec.ofInt 64 (a : Int) ^^^ BitVec.ofInt 64 (b : Int)).toNat : Int) = _
  rw [BitVec.toNat_xor, ofInt_i64 a ha, ofInt_i64 b hb, IntKind.wrap_i64]
  omega
theorem xor_nonneg {a b : Int} (ha : 0 ≤ a) (ha' : a ≤ 9223372036854775807) (hb : 0 ≤ b) (hb' : b ≤ 9223372036854775807) : 0 ≤ bits .xor .i64 a b := by
  obtain ⟨x, rfl⟩ := Int.eq_ofNat_of_zero_le ha
  obtain ⟨y, rfl⟩ := Int.eq_ofNat_of_zero_le hb
  rw [i64_xor_nat x y (by omega) (by omega)]
  omega

/-- The bytes that a reader reads: m of them (at most 2000), in another block than the reader's. -/
def RBytes (w : World) (r : Nat) (ao : Option Addr) (m : Nat) (c : Nat → Int) : Prop :=
  m ≤ 2000 ∧ (m = 0 ∨ ∃ b off, ao = some ⟨b, off, none⟩ ∧ b ≠ r ∧ ∀ i, i < m → w.cell? ⟨b, off + i, none⟩ = some (.int .u8 (c i)) ∧ 0 ≤ c i ∧ c i ≤ 255)

def Picked (w : World) (r : Nat) (sl : Value) (k : Nat) (n : Int) (e : Ending) (w' : World) : Prop :=
  ∃ v : Int, e = .returned (.int .i64 v) ∧ 0 ≤ v ∧ (1 ≤ n → v < n) ∧ (n < 1 → v = 0) ∧ w.grownBy w' (some r) ∧ w'.heap[r]? = some (.cells #[sl, .int .i64 (k + 1 : Nat)] 69 (0, 0))

theorem picked_mk {r : Nat} {sl : Value} {k : Nat} {n : Int} {w : World} (hr : w.heap[r]? = some (.cells #[sl, .int .i64 k] 69 (0, 0))) {v : Int} (h0 : 0 ≤ v) (h1 : 1 ≤ n → v < n) (h2 : n < 1 → v = 0)
    {u : Int} (hu : u = ((k + 1 : Nat) : Int)) (q : Nat) : Picked w r sl k n (.returned (.int .i64 v)) ((w.setCell ⟨r, 1, none⟩ (.int .i64 u)).drewN q) := by
  subst hu
  refine ⟨v, rfl, h0, h1, h2, ⟨rfl, rfl, rfl, ?_, fun j hj hne => ?_⟩, ?_⟩
  · show _ ≤ (w.setCell _ _).heap.size
    simp [World.setCell]
  · show (w.setCell _ _).heap[j]? = _
    exact heap_setCell_other w ⟨r, 1, none⟩ j _ (fun e => hne (by simp [e]))
  · show (w.setCell _ _).heap[r]? = _
    rw [heap_setCell_same w r 1 _ _ _ hr]
    rfl
theorem picked_mk0 {r : Nat} {sl : Value} {k : Nat} {n : Int} {w : World} (hr : w.heap[r]? = some (.cells #[sl, .int .i64 k] 69 (0, 0))) {v : Int} (h0 : 0 ≤ v) (h1 : 1 ≤ n → v < n) (h2 : n < 1 → v = 0)
    {u : Int} (hu : u = ((k + 1 : Nat) : Int)) : Picked w r sl k n (.returned (.int .i64 v)) (w.setCell ⟨r, 1, none⟩ (.int .i64 u)) := picked_mk hr h0 h1 h2 hu 0

theorem pick_few (r : Nat) (sl : Value) (k : Nat) (n : Int) (w : World) (hr : w.heap[r]? = some (.cells #[sl, .int .i64 k] 69 (0, 0))) (hk : k ≤ 1000000) (hn : n < 1) :
    Calls Try.prog 59 #[.pointer (some ⟨r, 0, none⟩), .int .i64 n] w (Picked w r sl k n) := by
  have c1 : w.cell? ⟨r, 1, none⟩ = some (.int .i64 k) := by rw [cell_of_row w r 1 _ _ _ hr]; rfl
  have z1 : w.frozen? ⟨r, 1, none⟩ = false := frozen_of_row w r 1 _ _ hr
  have HR := Lib.hid hr
  clear hr
  go_enter Try.func59, Try.ntmps59
  go_wp2
  go_ret
  exact picked_mk0 HR.out (Int.le_refl 0) (by omega) (by omega) (by omega)

theorem pick_zero (r : Nat) (ao : Option Addr) (cap : Nat) (k : Nat) (n : Int) (w : World) (hr : w.heap[r]? = some (.cells #[.slice ao 0 cap, .int .i64 k] 69 (0, 0))) (hk : k ≤ 1000000) (hn : 1 ≤ n) :
    Calls Try.prog 59 #[.pointer (some ⟨r, 0, none⟩), .int .i64 n] w (Picked w r (.slice ao 0 cap) k n) := by
  have c0 : w.cell? ⟨r, 0, none⟩ = some (.slice ao 0 cap) := by rw [cell_of_row w r 0 _ _ _ hr]; rfl
  have c1 : w.cell? ⟨r, 1, none⟩ = some (.int .i64 k) := by rw [cell_of_row w r 1 _ _ _ hr]; rfl
  have z1 : w.frozen? ⟨r, 1, none⟩ = false := frozen_of_row w r 1 _ _ hr
  have HR := Lib.hid hr
  clear hr
  go_enter Try.func59, Try.ntmps59
  go_wp2
  go_ret
  exact picked_mk0 HR.out (Int.le_refl 0) (by omega) (by omega) (by omega)

theorem pick_byte (r : Nat) (b off : Nat) (m cap : Nat) (c : Nat → Int) (k : Nat) (n : Int) (w : World) (hr : w.heap[r]? = some (.cells #[.slice (some ⟨b, off, none⟩) m cap, .int .i64 k] 69 (0, 0))) (hk : k ≤ 1000000) (hn : 1 ≤ n)
    (hm : m ≤ 2000) (hbr : b ≠ r) (hkm : k < m) (hc : w.cell? ⟨b, off + k, none⟩ = some (.int .u8 (c k))) (hc0 : 0 ≤ c k) (hc1 : c k ≤ 255) :
    Calls Try.prog 59 #[.pointer (some ⟨r, 0, none⟩), .int .i64 n] w (Picked w r (.slice (some ⟨b, off, none⟩) m cap) k n) := by
  have c0 : w.cell? ⟨r, 0, none⟩ = some (.slice (some ⟨b, off, none⟩) m cap) := by rw [cell_of_row w r 0 _ _ _ hr]; rfl
  have c1 : w.cell? ⟨r, 1, none⟩ = some (.int .i64 k) := by rw [cell_of_row w r 1 _ _ _ hr]; rfl
  have z1 : w.frozen? ⟨r, 1, none⟩ = false := frozen_of_row w r 1 _ _ hr
  have hm0 : ((m : Int) == 0) = false := by simp; omega
  have HR := Lib.hid hr
  clear hr
  go_enter Try.func59, Try.ntmps59
  go_wp2
  go_ret
  exact picked_mk0 HR.out (Int.emod_nonneg _ (by omega)) (fun _ => Int.emod_lt_of_pos _ (by omega)) (by omega) (by omega)

theorem pick_far (r : Nat) (b off : Nat) (m cap : Nat) (c : Nat → Int) (k : Nat) (n : Int) (w : World) (hr : w.heap[r]? = some (.cells #[.slice (some ⟨b, off, none⟩) m cap, .int .i64 k] 69 (0, 0))) (hk : k ≤ 1000000) (hn : 1 ≤ n)
    (hm : m ≤ 2000) (hbr : b ≠ r) (hkm : m ≤ k) (hm0 : 0 < m) (hc : w.cell? ⟨b, off + k % m, none⟩ = some (.int .u8 (c (k % m)))) (hc0 : 0 ≤ c (k % m)) (hc1 : c (k % m) ≤ 255)
    (hd : w.cell? ⟨b, off + (k * 7 + 3) % m, none⟩ = some (.int .u8 (c ((k * 7 + 3) % m)))) (hd0 : 0 ≤ c ((k * 7 + 3) % m)) (hd1 : c ((k * 7 + 3) % m) ≤ 255) :
    Calls Try.prog 59 #[.pointer (some ⟨r, 0, none⟩), .int .i64 n] w (Picked w r (.slice (some ⟨b, off, none⟩) m cap) k n) := by
  have c0 : w.cell? ⟨r, 0, none⟩ = some (.slice (some ⟨b, off, none⟩) m cap) := by rw [cell_of_row w r 0 _ _ _ hr]; rfl
  have c1 : w.cell? ⟨r, 1, none⟩ = some (.int .i64 k) := by rw [cell_of_row w r 1 _ _ _ hr]; rfl
  have z1 : w.frozen? ⟨r, 1, none⟩ = false := frozen_of_row w r 1 _ _ hr
  have hmz : ((m : Int) == 0) = false := by simp; omega
  have l1 : k % m < m := Nat.mod_lt _ hm0
  have l2 : (k * 7 + 3) % m < m := Nat.mod_lt _ hm0
  have l3 : k / m ≤ k := Nat.div_le_self _ _
  have i1 : (k : Int) % (m : Int) < (m : Int) := Int.emod_lt_of_pos _ (by omega)
  have i1' : 0 ≤ (k : Int) % (m : Int) := Int.emod_nonneg _ (by omega)
  have i2 : ((k : Int) * 7 + 3) % (m : Int) < (m : Int) := Int.emod_lt_of_pos _ (by omega)
  have i2' : 0 ≤ ((k : Int) * 7 + 3) % (m : Int) := Int.emod_nonneg _ (by omega)
  have i3 : (k : Int) / (m : Int) ≤ (k : Int) := Int.ediv_le_self _ (by omega)
  have i3' : 0 ≤ (k : Int) / (m : Int) := Int.ediv_nonneg (by omega) (by omega)
  have HR := Lib.hid hr
  clear hr
  go_enter Try.func59, Try.ntmps59
  go_wp2
  go_quiet (fail)
  go_wp2
  go_ret
  have hx : 0 ≤ bits BinOp.xor IntKind.i64 (c (k % m) * 131 + c ((k * 7 + 3) % m) * 1117 + k * 29 + k / m * 53) ((c (k % m) * 131 + c ((k * 7 + 3) % m) * 1117 + k * 29 + k / m * 53) / 64) :=
    xor_nonneg (by omega) (by omega) (by omega) (by omega)
  refine picked_mk HR.out ?_ ?_ ?_ ?_ nq
  · exact Int.tmod_nonneg _ hx
  · intro _
    rw [Int.tmod_eq_emod_of_nonneg hx]
    exact Int.emod_lt_of_pos _ (by omega)
  · omega
  · omega

theorem pick_calls (r : Nat) (ao : Option Addr) (m cap : Nat) (c : Nat → Int) (k : Nat) (n : Int) (w : World) (hr : w.heap[r]? = some (.cells #[.slice ao m cap, .int .i64 k] 69 (0, 0))) (hk : k ≤ 1000000) (hb : RBytes w r ao m c) :
    Calls Try.prog 59 #[.pointer (some ⟨r, 0, none⟩), .int .i64 n] w (Picked w r (.slice ao m cap) k n) := by
  by_cases hn : n < 1
  · exact pick_few r _ k n w hr hk hn
  · obtain ⟨hm, hb⟩ := hb
    rcases hb with rfl | ⟨b, off, rfl, hbr, hc⟩
    · exact pick_zero r ao cap k n w hr hk (by omega)
    · rcases Nat.eq_zero_or_pos m with rfl | hm0
      · exact pick_zero r _ cap k n w hr hk (by omega)
      · by_cases hkm : k < m
        · obtain ⟨h1, h2, h3⟩ := hc k hkm
          exact pick_byte r b off m cap c k n w hr hk (by omega) hm hbr hkm h1 h2 h3
        · obtain ⟨h1, h2, h3⟩ := hc (k % m) (Nat.mod_lt _ hm0)
          obtain ⟨g1, g2, g3⟩ := hc ((k * 7 + 3) % m) (Nat.mod_lt _ hm0)
          exact pick_far r b off m cap c k n w hr hk (by omega) hm hbr (by omega) hm0 h1 h2 h3 g1 g2 g3
end Go.Proofs.Ytcgnaokpdlbhbaa
