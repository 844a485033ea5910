/- The insertion sort of the program's order, as lists. -/
import Derived.Test.YthbemokpdcipaaaPackPlain
namespace Go.Proofs.Ythbemokpdcipaaa
open Go.RowKit
set_option linter.unusedVariables false

/-- Inside round i: i stands at j, those behind it are later. -/
def arrI (L : Nat → Lz) (n i j : Nat) : List Nat := (ordL L i).take j ++ i :: ((ordL L i).drop j ++ (List.range n).drop (i + 1))
/-- Ahead of round i. -/
def arrO (L : Nat → Lz) (n i : Nat) : List Nat := ordL L i ++ (List.range n).drop i
theorem arrI_len {L : Nat → Lz} {n i j : Nat} (hi : i < n) (hj : j ≤ i) : (arrI L n i j).length = n := by
  have hl := ordL_len L i
  simp [arrI, hl]; omega
theorem arrI_top {L : Nat → Lz} {n i : Nat} (hi : i < n) : arrI L n i i = arrO L n i := by
  have hl := ordL_len L i
  unfold arrI arrO
  rw [List.take_of_length_le (by omega), List.drop_of_length_le (by omega), List.drop_eq_getElem_cons (l := List.range n) (i := i) (by simpa using hi)]
  simp
theorem arrO_one {L : Nat → Lz} {n : Nat} (hn : 0 < n) : arrO L n 1 = List.range n := by
  cases n with
  | zero => omega
  | succ n =>
    have h : ordL L 1 = [0] := rfl
    unfold arrO
    rw [h, List.range_succ_eq_map]; simp
theorem arrO_all {L : Nat → Lz} {n i : Nat} (hi : n ≤ i) (h2 : i ≤ n) : arrO L n i = ordL L n := by
  obtain rfl : i = n := by omega
  unfold arrO
  rw [List.drop_of_length_le (by simp)]; simp
theorem arrI_at {L : Nat → Lz} {n i j : Nat} (hj : j ≤ i) : (arrI L n i j)[j]? = some i := by
  have hl := ordL_len L i
  unfold arrI
  rw [List.getElem?_append_right (by simp; omega)]
  simp [hl, Nat.min_eq_left hj]
theorem split_at {l : List Nat} {j : Nat} (hj : j < l.length) : l.take (j + 1) = l.take j ++ [l.getD j 0] ∧ l.drop j = l.getD j 0 :: l.drop (j + 1) := by
  constructor
  · rw [List.take_succ_eq_append_getElem hj]; simp [hj]
  · rw [List.drop_eq_getElem_cons hj]; simp [hj]
theorem arrI_prev {L : Nat → Lz} {n i j : Nat} (hj : j + 1 ≤ i) : (arrI L n i (j + 1))[j]? = some ((ordL L i).getD j 0) := by
  have hl := ordL_len L i
  unfold arrI
  rw [(split_at (l := ordL L i) (j := j) (by omega)).1, List.append_assoc, List.getElem?_append_right (by simp; omega)]
  simp [hl, Nat.min_eq_left (show j ≤ i by omega)]
theorem swap_list {α : Type} (x i : α) : ∀ (P Q : List α), ((P ++ x :: i :: Q).set (P.length + 1) x).set P.length i = P ++ i :: x :: Q := by
  intro P
  induction P with
  | nil => intro Q; rfl
  | cons p P ih => intro Q; simp only [List.cons_append, List.length_cons, List.set_cons_succ, ih]
theorem arrI_swap {L : Nat → Lz} {n i j : Nat} (hj : j + 1 ≤ i) : ((arrI L n i (j + 1)).set (j + 1) ((ordL L i).getD j 0)).set j i = arrI L n i j := by
  have hl := ordL_len L i
  have hs := split_at (l := ordL L i) (j := j) (by omega)
  have hp : ((ordL L i).take j).length = j := by simp [hl]; omega
  have := swap_list ((ordL L i).getD j 0) i ((ordL L i).take j) ((ordL L i).drop (j + 1) ++ (List.range n).drop (i + 1))
  rw [hp] at this
  unfold arrI
  rw [hs.1, hs.2, List.append_assoc]
  exact this
/-- Those behind j are later than i. -/
def lateB (L : Nat → Lz) (i j : Nat) : Prop := ∀ x ∈ (ordL L i).drop j, (L i).frm < (L x).frm
theorem late_top (L : Nat → Lz) (i : Nat) : lateB L i i := by
  have hl := ordL_len L i
  intro x hx
  rw [List.drop_of_length_le (by omega)] at hx; simp at hx
theorem late_step {L : Nat → Lz} {i j : Nat} (hj : j + 1 ≤ i) (h : lateB L i (j + 1)) (h2 : (L i).frm < (L ((ordL L i).getD j 0)).frm) : lateB L i j := by
  have hl := ordL_len L i
  intro x hx
  rw [(split_at (l := ordL L i) (j := j) (by omega)).2] at hx
  rcases List.mem_cons.1 hx with e | hx
  · subst e; exact h2
  · exact h x hx
theorem arrI_end {L : Nat → Lz} {n i j : Nat} (hj : j ≤ i) (h : lateB L i j) (h0 : j = 0 ∨ (L ((ordL L i).getD (j - 1) 0)).frm ≤ (L i).frm) : arrI L n i j = arrO L n (i + 1) := by
  have hl := ordL_len L i
  have := ins_at (L := L) (k := i) (ordL L i) j (by omega) (ordL_le L i) h h0
  unfold arrI arrO
  rw [← List.cons_append, ← List.append_assoc, this]; rfl
theorem ord_getD_lt {L : Nat → Lz} {i j : Nat} (hj : j < i) : (ordL L i).getD j 0 < i := ordAt_lt (L := L) hj

/-- Places as values. -/
def natV (xs : List Nat) : List Value := xs.map fun (i : Nat) => Value.int .i64 (i : Int)
theorem natV_get {xs : List Nat} {k i : Nat} (h : xs[k]? = some i) : (natV xs)[k]? = some (.int .i64 (i : Int)) := by simp [natV, h]
theorem natV_set (xs : List Nat) (k i : Nat) : (natV xs).set k (.int .i64 (i : Int)) = natV (xs.set k i) := by simp [natV, List.map_set]
theorem natV_snoc (k : Nat) : natV (List.range k) ++ [.int .i64 (k : Int)] = natV (List.range (k + 1)) := by simp [natV, List.range_succ]
theorem natV_len (xs : List Nat) : (natV xs).length = xs.length := by simp [natV]
end Go.Proofs.Ythbemokpdcipaaa
