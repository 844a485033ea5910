/- Append of one element, and where the new row lies. -/
import Derived.Test.YtmabhoglnapgdaaSlice
import Derived.Deep.AppendLies
namespace Go.Proofs.Ytmabhoglnapgdaa
open Go.ChangeShapes Go.WideShapes Go.ChangeAt Go.RowKit
set_option linter.unusedVariables false

/-- APPEND OF ONE ELEMENT, just laid in a block of its own, to a slice of the call's own; the new row is the old one or a new one. -/
theorem app1L {P : Program} {ops : Array Oper} {rest : List Oper} {o : Oper} {a : Act} {Q : Exit → Act → World → Prop} {w0 : World} {cs : Array Value} {t e : TypeId} {z : Value} {size bytes base n : Nat} {v : Value} {xs : List Value}
    (ht : P.underlying t = some (.slice e)) (hi : (P.info? e).map (fun i => (i.zero, i.size, i.bytes)) = some (some z, size, bytes)) (hzs : z.cells.size = size) (hsz : 0 < size) (hby : bytes ≤ 64)
    (hown : w0.ownsRow base e size v n xs) (hn : n ≤ 2097152) (hb : base ≤ w0.heap.size) (hcs : cs.size = size) (h1 : ∀ u ∈ cs.toList, u.oneCell' = true)
    (s x : Operand) (hgd : Region.wanted o (yielded ops a.tmps) = true) (ho : o.op = .call { callee := .builtin .append, args := #[s, x], argTypes := #[t, t] }) (hs : a.eval s = v) (hx : a.eval x = .slice (some ⟨w0.heap.size, 0, none⟩) 1 1)
    (h : ∀ g cap w', w'.ownsRow base e size (.slice (some ⟨g, 0, none⟩) (n + 1) cap) (n + 1) (xs ++ cs.toList) → w0.grownBy w' v.ownBlock → (v.ownBlock = some g ∨ w0.heap.size < g) → wpList P ops Q rest (a.put o.dst (.slice (some ⟨g, 0, none⟩) (n + 1) cap)) w') :
    wpList P ops Q (o :: rest) a (w0.alloc (.cells cs e)) := by
  obtain ⟨i, hi, hz0, hz1, hz2⟩ := info_parts hi
  refine wpList_wanted hgd fun K hK => ?_
  refine wp_append_lies _ s x t ho base e i z size bytes ht hi hz0 hz1 hz2 hzs hsz v n xs hs (hown.alloc _) ⟨w0.heap.size, 0, none⟩ 1 1 cs.toList hx ?_ ?_ h1 (by omega) ?_ ?_ ?_ _ rfl ?_
  · simp [hcs]
  · intro j u hu
    rw [Addr.add_lit, Nat.zero_add, cell_of_row _ w0.heap.size j cs e (0, 0) (heap_alloc_new w0 _)]
    simpa using hu
  · unfold maxLen; omega
  · have : (n + 1) * bytes ≤ (2097152 + 1) * 64 := Nat.mul_le_mul (by omega) hby
    omega
  · simp; omega
  · intro g cap w' g1 g2 g3 _
    refine hK _ _ (h g cap w' g1 ⟨g2.os, g2.tape, g2.output, by have := g2.size; simp at this; omega, fun k hk hne => ?_⟩ ?_)
    · exact (g2.block k (by simp; omega) hne).trans (Below.heap_alloc w0 _ k hk)
    · rcases g3 with g3 | g3
      · exact .inl g3
      · right; simp at g3; omega
end Go.Proofs.Ytmabhoglnapgdaa
