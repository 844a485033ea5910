/- What the program's PackLeases keeps in memory. -/
import Derived.Test.YthbemokpdcipaaaPack5
import Derived.OneCell
namespace Go.Proofs.Ythbemokpdcipaaa
open Go.ChangeShapes Go.WideShapes Go.ChangeAt Go.RowKit
set_option linter.unusedVariables false

/-- The list's variable gl, the result's go, the order's go + 1; the packed rows, the order's row. -/
structure PackW (w : World) (gl go : Nat) (ao : Option Addr) (n cap : Nat) (a : Option Addr) (c : Nat) (M : Nat → Lz) (v : Value) (m : Nat) (xs : List Nat) (wr : World) : Prop where
  b : Below gl w wr
  l : wr.heap[gl]? = some (.cells #[.slice ao n cap] 23 (0, 0))
  o : wr.heap[go]? = some (.cells #[.slice a n n] 23 (0, 0))
  r : wr.heap[go + 1]? = some (.cells #[v] 40 (0, 0))
  rows : wr.ownsRow gl 29 4 (.slice a n c) n (rowsL M n)
  blk : ∀ g, (Value.slice a n c).ownBlock = some g → gl < g ∧ g < go
  ints : wr.ownsRow (go + 2) 3 1 v m (natV xs)
  lt : gl < go
section
variable {w : World} {gl go : Nat} {ao : Option Addr} {n cap : Nat} {a : Option Addr} {c : Nat} {M : Nat → Lz} {v : Value} {m : Nat} {xs : List Nat} {wr w1 : World}
theorem PackW.below (h : PackW w gl go ao n cap a c M v m xs wr) (hb : Below wr.heap.size wr w1) : PackW w gl go ao n cap a c M v m xs w1 :=
  ⟨h.b.trans (hb.mono (Nat.le_of_lt (lt_of_block h.l))), (hb.block _ (lt_of_block h.l)).trans h.l, (hb.block _ (lt_of_block h.o)).trans h.o, (hb.block _ (lt_of_block h.r)).trans h.r, own_below h.rows hb, h.blk, own_below h.ints hb, h.lt⟩
theorem PackW.grown (h : PackW w gl go ao n cap a c M v m xs wr) (G : wr.grownBy w1 v.ownBlock) :
    Below gl w w1 ∧ w1.heap[gl]? = some (.cells #[.slice ao n cap] 23 (0, 0)) ∧ w1.heap[go]? = some (.cells #[.slice a n n] 23 (0, 0)) ∧ w1.heap[go + 1]? = some (.cells #[v] 40 (0, 0)) ∧ w1.ownsRow gl 29 4 (.slice a n c) n (rowsL M n) := by
  have hlt := h.ints.lt
  have h1 := h.lt
  refine ⟨h.b.grown G (Nat.le_of_lt (lt_of_block h.l)) (fun g hg => by have := hlt g hg; omega), (G.block _ (lt_of_block h.l) (fun e => ?_)).trans h.l, (G.block _ (lt_of_block h.o) (fun e => ?_)).trans h.o, (G.block _ (lt_of_block h.r) (fun e => ?_)).trans h.r, own_grown h.rows G (fun g hg e => ?_)⟩
  · have := hlt _ e.symm; omega
  · have := hlt _ e.symm; omega
  · have := hlt _ e.symm; omega
  · have := hlt _ hg; have := h.blk _ e; omega
theorem PackW.sorted {xs' : List Nat} (h : PackW w gl go ao n cap a c M v m xs wr) (O : w1.ownsRow (go + 2) 3 1 v m (natV xs')) (G : wr.grownBy w1 v.ownBlock) : PackW w gl go ao n cap a c M v m xs' w1 := by
  obtain ⟨g1, g2, g3, g4, g5⟩ := h.grown G
  exact ⟨g1, g2, g3, g4, g5, h.blk, O, h.lt⟩
theorem PackW.put {v' : Value} {m' : Nat} {xs' : List Nat} (h : PackW w gl go ao n cap a c M v m xs wr) (O : w1.ownsRow (go + 2) 3 1 v' m' (natV xs')) (G : wr.grownBy w1 v.ownBlock) : PackW w gl go ao n cap a c M v' m' xs' (w1.setCell ⟨go + 1, 0, none⟩ v') := by
  obtain ⟨g1, g2, g3, g4, g5⟩ := h.grown G
  have h1 := h.lt
  refine ⟨g1.setCell (show gl ≤ go + 1 by omega) _, (Below.heap_setCell _ _ _ _ (by simp; omega)).trans g2, (Below.heap_setCell _ _ _ _ (by simp)).trans g3, one_setCell g4, ownsRow_setCell_other g5 (fun e => ?_) _, h.blk, ownsRow_setCell_other O (fun e => ?_) _, h.lt⟩
  · have := h.blk _ e; simp at this; omega
  · have := O.lt _ e; simp at this
theorem PackW.setOut {ga q : Nat} {cc : Int} (h : PackW w gl go ao n cap (some ⟨ga, 0, none⟩) c M v m xs wr) (hq : q < n) : PackW w gl go ao n cap (some ⟨ga, 0, none⟩) c (fun i => if i = q then { (M i) with conn := cc } else M i) v m xs (wr.setCell ⟨ga, q * 4, none⟩ (.int .i64 cc)) := by
  have s1 := h.rows.stored (q * 4) (.int .i64 cc)
  have O5 := s1.1
  rw [rowsL_conn _ _ _ hq] at O5
  have e : (fun i => if i = q then { (M q) with conn := cc } else M i) = (fun i => if i = q then { (M i) with conn := cc } else M i) := by
    funext i
    by_cases e : i = q
    · subst e; rfl
    · rw [if_neg e, if_neg e]
  have hb := h.blk ga rfl
  have h1 := h.lt
  refine ⟨h.b.setCell (show gl ≤ ga by omega) _, (Below.heap_setCell _ _ _ _ (by simp; omega)).trans h.l, (Below.heap_setCell _ _ _ _ (by simp; omega)).trans h.o, (Below.heap_setCell _ _ _ _ (by simp; omega)).trans h.r, by first | exact O5 | (rw [← e]; exact O5), h.blk, ownsRow_setCell_other h.ints (fun e => ?_) _, h.lt⟩
  have := h.ints.lt _ e; simp at this; omega
theorem PackW.cells (h : PackW w gl go ao n cap a c M v m xs wr) : wr.cell? ⟨gl, 0, none⟩ = some (.slice ao n cap) ∧ wr.cell? ⟨go, 0, none⟩ = some (.slice a n n) ∧ wr.cell? ⟨go + 1, 0, none⟩ = some v :=
  ⟨cell_of_one h.l, cell_of_one h.o, cell_of_one h.r⟩
end
/-- The order reads. -/
theorem RdI_nat {w : World} {base : Nat} {e : TypeId} {ao : Option Addr} {n cap : Nat} {xs : List Nat} (hl : xs.length = n) (h : w.ownsRow base e 1 (.slice ao n cap) n (natV xs)) : RdI w ao n cap (fun i => ((xs.getD i 0 : Nat) : Int)) := by
  have h' : w.ownsRow base e 1 (.slice ao n cap) n ((xs.map (fun (i : Nat) => (i : Int))).map (Value.int .i64)) := by simpa [natV, List.map_map, Function.comp_def] using h
  refine Rd.congr (RdI_of_ownL (by simpa using hl) h') fun i hi j _ => congrArg (Value.int .i64) ?_
  have hi' : i < xs.length := by omega
  simp [hi']
end Go.Proofs.Ythbemokpdcipaaa
