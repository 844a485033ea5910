/- Appends at a step of a region that draws its order. -/
import Derived.Test.YtcgnaokpdlbhbaaRowsOf
import Derived.Deep.AppendLies
import Derived.Deep.RegionHeld3
import Derived.Laws.AppendOwnNone
namespace Go.Proofs.Ytcgnaokpdlbhbaa
open Go.ChangeShapes Go.WideShapes Go.ChangeAt Go.RowKit
set_option linter.unusedVariables false

theorem step_app1 {P : Program} {ops : Array Oper} {o : Oper} {a : Act} {K : Act → World → Prop} {Q : Exit → Act → World → Prop} {E : Prop} {w1 : World} {cs : Array Value} {t e : TypeId} {z : Value} {size bytes base n g0 : Nat} {v : Value} {xs : List Value}
    (ht : P.underlying t = some (.slice e)) (hi : (P.info? e).map (fun i => (i.zero, i.size, i.bytes)) = some (some z, size, bytes)) (hzs : z.cells.size = size) (hsz : 0 < size) (hby : bytes ≤ 64)
    (hown : w1.ownsRow base e size v n xs) (hn : n ≤ 2097152) (hb : base ≤ w1.heap.size) (hcs : cs.size = size) (h1 : ∀ u ∈ cs.toList, u.oneCell' = true) (hblk : w1.heap[g0]? = some (.cells cs e (0, 0)))
    (s x : Operand) (hgd : Region.wanted o (yielded ops a.tmps) = true) (ho : o.op = .call { callee := .builtin .append, args := #[s, x], argTypes := #[t, t] }) (hs : a.eval s = v) (hx : a.eval x = .slice (some ⟨g0, 0, none⟩) 1 1)
    (h : ∀ v' w', w'.ownsRow base e size v' (n + 1) (xs ++ cs.toList) → w1.grownBy w' v.ownBlock → K (a.put o.dst v') w') :
    if Region.wanted o (yielded ops a.tmps) = true then Oper.wp P o a w1 K Q else E := by
  obtain ⟨i, hi, hz0, hz1, hz2⟩ := info_parts hi
  rw [if_pos hgd]
  refine wp_append_own _ s x t ho base e i z size bytes ht hi hz0 hz1 hz2 hzs hsz v n xs hs hown ⟨g0, 0, none⟩ 1 1 cs.toList hx ?_ ?_ h1 ?_ ?_ hb ?_
  · simp [hcs]
  · intro j u hu
    rw [Addr.add_lit, Nat.zero_add, cell_of_row _ g0 j cs e (0, 0) hblk]
    simpa using hu
  · unfold maxLen; omega
  · have : (n + 1) * bytes ≤ (2097152 + 1) * 64 := Nat.mul_le_mul (by omega) hby
    omega
  · intro v' w' g1 g2 _
    exact h v' w' g1 g2

theorem step_appAll {P : Program} {ops : Array Oper} {o : Oper} {a : Act} {K : Act → World → Prop} {Q : Exit → Act → World → Prop} {E : Prop} {w0 : World} {t e : TypeId} {z : Value} {size bytes base n : Nat} {v : Value} {xs : List Value} {ao : Option Addr} {m c : Nat} {f : Nat → Nat → Value}
    (ht : P.underlying t = some (.slice e)) (hi : (P.info? e).map (fun i => (i.zero, i.size, i.bytes)) = some (some z, size, bytes)) (hzs : z.cells.size = size) (hsz : 0 < size) (hby : bytes ≤ 64)
    (hown : w0.ownsRow base e size v n xs) (hrd : Rd w0 size ao m c f) (hn : n + m ≤ 2097152) (hb : base ≤ w0.heap.size) (h1 : ∀ i j, i < m → j < size → (f i j).oneCell' = true)
    (s x : Operand) (hgd : Region.wanted o (yielded ops a.tmps) = true) (ho : o.op = .call { callee := .builtin .append, args := #[s, x], argTypes := #[t, t] }) (hs : a.eval s = v) (hx : a.eval x = .slice ao m c)
    (h : ∀ v' w', w'.ownsRow base e size v' (n + m) (xs ++ rows size m f) → w0.grownBy w' v.ownBlock → K (a.put o.dst v') w') :
    if Region.wanted o (yielded ops a.tmps) = true then Oper.wp P o a w0 K Q else E := by
  obtain ⟨i, hi, hz0, hz1, hz2⟩ := info_parts hi
  rw [if_pos hgd]
  have hone : ∀ u ∈ rows size m f, u.oneCell' = true := by
    intro u hu
    obtain ⟨k, hk⟩ := List.getElem?_of_mem hu
    obtain ⟨i, j, a1, a2, _, rfl⟩ := rows_get _ _ _ k u hk
    exact h1 i j a1 a2
  have hnb : (n + m) * bytes ≤ 140737488355328 := by
    have : (n + m) * bytes ≤ 2097152 * 64 := Nat.mul_le_mul hn hby
    omega
  obtain ⟨r1, r2, r3, r4⟩ := hrd
  cases ao with
  | none =>
    have hc := r3 rfl
    subst hc
    obtain rfl : m = 0 := by omega
    have h' := h v w0 (by simpa [rows] using hown) ⟨rfl, rfl, rfl, Nat.le_refl _, fun _ _ _ => rfl⟩
    have hrun := run_append_owned_none (P := P) (w := w0) base t o.type e i size ht hi v n xs hown
    unfold Oper.wp
    simp [execOp, ho, resolve, invoke, builtin, hs, hx, hrun, Result.andThen]
    exact h'
  | some ad =>
    refine wp_append_own _ s x t ho base e i z size bytes ht hi hz0 hz1 hz2 hzs hsz v n xs hs hown ad m c (rows size m f) hx (rows_len _ _ _) ?_ hone ?_ hnb hb ?_
    · intro k u hk
      obtain ⟨i, j, a1, a2, rfl, rfl⟩ := rows_get _ _ _ k u hk
      rcases r4 with r4 | ⟨b, off, hbo, hbl, hcell⟩
      · omega
      · injection hbo with hbo
        subst hbo
        rw [Addr.add_lit, ← Nat.add_assoc]
        exact hcell i a1 j a2
    · unfold maxLen; omega
    · intro v' w' g1 g2 _
      exact h v' w' g1 g2
/-- The end of a slice. -/
theorem Rd.drop {w : World} {s b off n cap : Nat} {f : Nat → Nat → Value} (h : Rd w s (some ⟨b, off, none⟩) n cap f) {k : Nat} (hk : k ≤ n) : Rd w s (some ⟨b, off + k * s, none⟩) (n - k) (cap - k) (fun i j => f (k + i) j) := by
  obtain ⟨h1, h2, _, h3⟩ := h
  refine ⟨by omega, by omega, fun h => by simp at h, ?_⟩
  rcases h3 with h3 | ⟨b', off', he, hb, hc⟩
  · exact .inl (by omega)
  · injection he with he
    injection he with e1 e2 e3
    subst e1 e2
    by_cases e : n - k = 0
    · exact .inl e
    · refine .inr ⟨b, off + k * s, rfl, hb, fun i hi j hj => ?_⟩
      have := hc (k + i) (by omega) j hj
      rw [Nat.add_mul] at this
      have e : off + k * s + i * s + j = off + (k * s + i * s) + j := by omega
      rw [e]; exact this
end Go.Proofs.Ytcgnaokpdlbhbaa
