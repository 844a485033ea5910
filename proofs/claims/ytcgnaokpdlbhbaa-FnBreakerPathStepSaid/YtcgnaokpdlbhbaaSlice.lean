/- Slices in the walks: how a slice reads as a list; one element appended to a list of the call's own. -/
import Derived.Test.YtcgnaokpdlbhbaaFrame
import Derived.Laws.AppendOwnNone
namespace Go.Proofs.Ytcgnaokpdlbhbaa
open Go.ChangeShapes Go.WideShapes Go.ChangeAt Go.RowKit
set_option linter.unusedVariables false

theorem bcell {W w1 : World} (hb : Below W.heap.size W w1) : (∀ b o, b < W.heap.size → w1.cell? ⟨b, o, none⟩ = W.cell? ⟨b, o, none⟩) ∧ (∀ b o, b < W.heap.size → w1.frozen? ⟨b, o, none⟩ = W.frozen? ⟨b, o, none⟩) :=
  ⟨fun b o h => hb.cell (p := ⟨b, o, none⟩) h, fun b o h => hb.frozen (p := ⟨b, o, none⟩) h⟩

/-- The slice value '.slice ao n cap' reads as n elements of s cells: cell j of element i is 'f i j'. -/
def Rd (w : World) (s : Nat) (ao : Option Addr) (n cap : Nat) (f : Nat → Nat → Value) : Prop :=
  n ≤ cap ∧ cap ≤ maxLen ∧ (ao = none → cap = 0) ∧ (n = 0 ∨ ∃ b off, ao = some ⟨b, off, none⟩ ∧ b < w.heap.size ∧ ∀ i, i < n → ∀ j, j < s → w.cell? ⟨b, off + i * s + j, none⟩ = some (f i j))

theorem Rd.len {w : World} {s : Nat} {ao : Option Addr} {n cap : Nat} {f : Nat → Nat → Value} (h : Rd w s ao n cap f) : n ≤ 9223372036854775807 := by
  have := h.1; have := h.2.1; unfold maxLen at this; omega
theorem Rd.below {w w' : World} {s : Nat} {ao : Option Addr} {n cap : Nat} {f : Nat → Nat → Value} (h : Rd w s ao n cap f) (hb : Below w.heap.size w w') : Rd w' s ao n cap f := by
  obtain ⟨h1, h2, hz, h3⟩ := h
  refine ⟨h1, h2, hz, ?_⟩
  rcases h3 with h3 | ⟨b, off, h4, h5, h6⟩
  · exact .inl h3
  · exact .inr ⟨b, off, h4, Nat.lt_of_lt_of_le h5 hb.size, fun i hi j hj => (hb.cell h5).trans (h6 i hi j hj)⟩
theorem Rd.grown {w w' : World} {s : Nat} {ao : Option Addr} {n cap : Nat} {f : Nat → Nat → Value} {row : Option Nat} (h : Rd w s ao n cap f) (hg : w.grownBy w' row) (hrow : ∀ b off x, ao = some ⟨b, off, x⟩ → row ≠ some b) : Rd w' s ao n cap f := by
  obtain ⟨h1, h2, hz, h3⟩ := h
  refine ⟨h1, h2, hz, ?_⟩
  rcases h3 with h3 | ⟨b, off, h4, h5, h6⟩
  · exact .inl h3
  · exact .inr ⟨b, off, h4, Nat.lt_of_lt_of_le h5 hg.size, fun i hi j hj => (World.cell?_of_block (hg.block b h5 (fun e => hrow b off none h4 e.symm))).trans (h6 i hi j hj)⟩
theorem Rd.nil (w : World) (s : Nat) (f : Nat → Nat → Value) : Rd w s none 0 0 f := ⟨Nat.zero_le _, Nat.zero_le _, fun _ => rfl, .inl rfl⟩
theorem Rd.congr {w : World} {s : Nat} {ao : Option Addr} {n cap : Nat} {f g : Nat → Nat → Value} (h : Rd w s ao n cap f) (hfg : ∀ i, i < n → ∀ j, j < s → f i j = g i j) : Rd w s ao n cap g := by
  obtain ⟨h1, h2, hz, h3⟩ := h
  refine ⟨h1, h2, hz, ?_⟩
  rcases h3 with h3 | ⟨b, off, h4, h5, h6⟩
  · exact .inl h3
  · exact .inr ⟨b, off, h4, h5, fun i hi j hj => by rw [← hfg i hi j hj]; exact h6 i hi j hj⟩
/-- The beginning of a slice. -/
theorem Rd.take {w : World} {s : Nat} {ao : Option Addr} {n cap : Nat} {f : Nat → Nat → Value} (h : Rd w s ao n cap f) {m : Nat} (hm : m ≤ n) : Rd w s ao m cap f := by
  obtain ⟨h1, h2, hz, h3⟩ := h
  refine ⟨by omega, h2, hz, ?_⟩
  rcases h3 with h3 | ⟨b, off, h4, h5, h6⟩
  · exact .inl (by omega)
  · exact .inr ⟨b, off, h4, h5, fun i hi j hj => h6 i (by omega) j hj⟩
/-- Where there is an element, the place is known. -/
theorem Rd.pos {w : World} {s : Nat} {ao : Option Addr} {n cap : Nat} {f : Nat → Nat → Value} (h : Rd w s ao n cap f) (hn : 0 < n) : ∃ b off, ao = some ⟨b, off, none⟩ ∧ b < w.heap.size ∧ ∀ i, i < n → ∀ j, j < s → w.cell? ⟨b, off + i * s + j, none⟩ = some (f i j) := by
  rcases h.2.2.2 with h | h
  · omega
  · exact h

/-- What the call owns reads as a list of rows of s cells. -/
theorem flat_get {α : Type} (enc : α → List Value) (s : Nat) (henc : ∀ a, (enc a).length = s) (d : α) : ∀ (L : List α) (i j : Nat), i < L.length → j < s → (L.flatMap enc)[i * s + j]? = some ((enc (L.getD i d)).getD j undef) := by
  intro L
  induction L with
  | nil => intro i j hi _; simp at hi
  | cons a L ih =>
    intro i j hi hj
    cases i with
    | zero =>
      rw [List.flatMap_cons, List.getElem?_append_left (by rw [henc]; omega)]
      have : j < (enc a).length := by rw [henc]; exact hj
      simp [this]
    | succ i =>
      rw [List.flatMap_cons, List.getElem?_append_right (by rw [henc, Nat.succ_mul]; omega), henc]
      have e : (i + 1) * s + j - s = i * s + j := by rw [Nat.succ_mul]; omega
      rw [e, ih i j (by simpa using hi) hj]
      simp

theorem Rd_of_own {α : Type} (enc : α → List Value) {s : Nat} (henc : ∀ a, (enc a).length = s) (d : α) {w : World} {base : Nat} {e : TypeId} {v : Value} {L : List α} (h : w.ownsRow base e s v L.length (L.flatMap enc)) :
    ∃ ao cap, v = .slice ao L.length cap ∧ Rd w s ao L.length cap (fun i j => (enc (L.getD i d)).getD j undef) ∧ ∀ b off x, ao = some ⟨b, off, x⟩ → base ≤ b := by
  rcases h.2 with ⟨hv, hn⟩ | ⟨g, cap, cur, hv, hbase, hg, hnc, hcm, hcs, htake⟩
  · refine ⟨none, 0, ?_, ?_, fun _ _ _ h => by simp at h⟩
    · rw [hv, hn]
    · rw [hn]; exact Rd.nil _ _ _
  · refine ⟨some ⟨g, 0, none⟩, cap, hv, ⟨hnc, hcm, fun h => by simp at h, .inr ⟨g, 0, rfl, ?_, fun i hi j hj => ?_⟩⟩, ?_⟩
    · exact (Array.getElem?_eq_some_iff.1 hg).1
    · rw [cell_of_row w g _ cur e (0, 0) hg, ← Array.getElem?_toList]
      have h1 := flat_get enc s henc d L i j hi hj
      rw [← htake, List.getElem?_take] at h1
      split at h1
      · simpa using h1
      · simp at h1
    · intro b off x hx
      simp at hx
      omega

theorem wpList_wanted {P : Program} {ops : Array Oper} {Q : Exit → Act → World → Prop} {a : Act} {w : World} {rest : List Oper} {o : Oper} (hw : Region.wanted o (yielded ops a.tmps) = true)
    (h : ∀ K : Act → World → Prop, (∀ a w, wpList P ops Q rest a w → K a w) → o.wp P a w K Q) : wpList P ops Q (o :: rest) a w :=
  wpList_step fun K hK => by rw [if_pos hw]; exact h K hK

/-- APPEND OF ONE ELEMENT, just laid in a block of its own, to a slice of the call's own. -/
theorem app1 {P : Program} {ops : Array Oper} {rest : List Oper} {o : Oper} {a : Act} {Q : Exit → Act → World → Prop} {w0 : World} {cs : Array Value} {t e : TypeId} {z : Value} {size bytes base n : Nat} {v : Value} {xs : List Value}
    (ht : P.underlying t = some (.slice e)) (hi : (P.info? e).map (fun i => (i.zero, i.size, i.bytes)) = some (some z, size, bytes)) (hzs : z.cells.size = size) (hsz : 0 < size) (hby : bytes ≤ 64)
    (hown : w0.ownsRow base e size v n xs) (hn : n ≤ 2097152) (hb : base ≤ w0.heap.size) (hcs : cs.size = size) (h1 : ∀ u ∈ cs.toList, u.oneCell' = true)
    (s x : Operand) (hgd : Region.wanted o (yielded ops a.tmps) = true) (ho : o.op = .call { callee := .builtin .append, args := #[s, x], argTypes := #[t, t] }) (hs : a.eval s = v) (hx : a.eval x = .slice (some ⟨w0.heap.size, 0, none⟩) 1 1)
    (h : ∀ v' w', w'.ownsRow base e size v' (n + 1) (xs ++ cs.toList) → w0.grownBy w' v.ownBlock → wpList P ops Q rest (a.put o.dst v') w') :
    wpList P ops Q (o :: rest) a (w0.alloc (.cells cs e)) := by
  obtain ⟨i, hi, hz0, hz1, hz2⟩ := info_parts hi
  refine wpList_wanted hgd fun K hK => ?_
  refine wp_append_own _ s x t ho base e i z size bytes ht hi hz0 hz1 hz2 hzs hsz v n xs hs (hown.alloc _) ⟨w0.heap.size, 0, none⟩ 1 1 cs.toList hx ?_ ?_ h1 ?_ ?_ ?_ ?_
  · simp [hcs]
  · intro j u hu
    rw [Addr.add_lit, Nat.zero_add, cell_of_row _ w0.heap.size j cs e (0, 0) (heap_alloc_new w0 _)]
    simpa using hu
  · unfold maxLen; omega
  · have : (n + 1) * bytes ≤ (2097152 + 1) * 64 := Nat.mul_le_mul (by omega) hby
    omega
  · simp; omega
  · intro v' w' g1 g2 _
    refine hK _ _ (h v' w' g1 ⟨g2.os, g2.tape, g2.output, by have := g2.size; simp at this; omega, fun k hk hne => ?_⟩)
    exact (g2.block k (by simp; omega) hne).trans (Below.heap_alloc w0 _ k hk)

/-- The cells of a slice that reads. -/
def rows (s n : Nat) (f : Nat → Nat → Value) : List Value := (List.range n).flatMap fun i => (List.range s).map (f i)
theorem rows_len (s n : Nat) (f : Nat → Nat → Value) : (rows s n f).length = n * s := by
  induction n with
  | zero => simp [rows]
  | succ n ih => unfold rows at *; rw [List.range_succ, List.flatMap_append, List.length_append, ih, Nat.succ_mul]; simp
theorem rows_get (s n : Nat) (f : Nat → Nat → Value) : ∀ k u, (rows s n f)[k]? = some u → ∃ i j, i < n ∧ j < s ∧ k = i * s + j ∧ u = f i j := by
  induction n with
  | zero => intro k u h; simp [rows] at h
  | succ n ih =>
    intro k u h
    have hl := rows_len s n f
    unfold rows at h hl ih
    rw [List.range_succ, List.flatMap_append, List.getElem?_append] at h
    split at h
    · obtain ⟨i, j, h1, h2, h3, h4⟩ := ih k u h
      exact ⟨i, j, by omega, h2, h3, h4⟩
    · rename_i hk
      rw [hl] at h hk
      simp only [List.flatMap_cons, List.flatMap_nil, List.append_nil, List.getElem?_map] at h
      obtain ⟨j, hj, rfl⟩ := Option.map_eq_some_iff.1 h
      obtain ⟨hj1, hj2⟩ := List.getElem?_eq_some_iff.1 hj
      simp at hj1 hj2
      exact ⟨n, j, by omega, by omega, by omega, rfl⟩

/-- APPEND OF A WHOLE SLICE THAT READS to a slice of the call's own. -/
theorem appAll {P : Program} {ops : Array Oper} {rest : List Oper} {o : Oper} {a : Act} {Q : Exit → Act → World → Prop} {w0 : World} {t e : TypeId} {z : Value} {size bytes base n : Nat} {v : Value} {xs : List Value} {ao : Option Addr} {m c : Nat} {f : Nat → Nat → Value}
    (ht : P.underlying t = some (.slice e)) (hi : (P.info? e).map (fun i => (i.zero, i.size, i.bytes)) = some (some z, size, bytes)) (hzs : z.cells.size = size) (hsz : 0 < size) (hby : bytes ≤ 64)
    (hown : w0.ownsRow base e size v n xs) (hrd : Rd w0 size ao m c f) (hn : n + m ≤ 2097152) (hb : base ≤ w0.heap.size) (h1 : ∀ i j, i < m → j < size → (f i j).oneCell' = true)
    (s x : Operand) (hgd : Region.wanted o (yielded ops a.tmps) = true) (ho : o.op = .call { callee := .builtin .append, args := #[s, x], argTypes := #[t, t] }) (hs : a.eval s = v) (hx : a.eval x = .slice ao m c)
    (h : ∀ v' w', w'.ownsRow base e size v' (n + m) (xs ++ rows size m f) → w0.grownBy w' v.ownBlock → wpList P ops Q rest (a.put o.dst v') w') :
    wpList P ops Q (o :: rest) a w0 := by
  obtain ⟨i, hi, hz0, hz1, hz2⟩ := info_parts hi
  have hone : ∀ u ∈ rows size m f, u.oneCell' = true := by
    intro u hu
    obtain ⟨k, hk⟩ := List.getElem?_of_mem hu
    obtain ⟨i, j, a1, a2, _, rfl⟩ := rows_get _ _ _ k u hk
    exact h1 i j a1 a2
  have hnb : (n + m) * bytes ≤ 140737488355328 := by
    have : (n + m) * bytes ≤ 2097152 * 64 := Nat.mul_le_mul hn hby
    omega
  obtain ⟨r1, r2, r3, r4⟩ := hrd
  cases ao with
  | none =>
    have hc := r3 rfl
    subst hc
    obtain rfl : m = 0 := by omega
    have h' := h v w0 (by simpa [rows] using hown) ⟨rfl, rfl, rfl, Nat.le_refl _, fun _ _ _ => rfl⟩
    refine wpList_wanted hgd fun K hK => ?_
    have hrun := run_append_owned_none (P := P) (w := w0) base t o.type e i size ht hi v n xs hown
    unfold Oper.wp
    simp [execOp, ho, resolve, invoke, builtin, hs, hx, hrun, Result.andThen]
    exact hK _ _ h'
  | some ad =>
    refine wpList_wanted hgd fun K hK => ?_
    refine wp_append_own _ s x t ho base e i z size bytes ht hi hz0 hz1 hz2 hzs hsz v n xs hs hown ad m c (rows size m f) hx (rows_len _ _ _) ?_ hone ?_ hnb hb ?_
    · intro k u hu
      obtain ⟨i, j, a1, a2, rfl, rfl⟩ := rows_get _ _ _ k u hu
      rcases r4 with r4 | ⟨b, off, e1, _, r5⟩
      · omega
      · obtain rfl := Option.some.inj e1
        rw [Addr.add_lit, ← Nat.add_assoc]
        exact r5 i a1 j a2
    · unfold maxLen; omega
    · intro v' w' g1 g2 _
      exact hK _ _ (h v' w' g1 g2)

/-- The same rows, whatever else turned. -/
theorem grown_trans {a b c : World} {row row' : Option Nat} (h : a.grownBy b row) (k : b.grownBy c row') (hr : ∀ g, row' = some g → a.heap.size ≤ g ∨ row = some g) : a.grownBy c row :=
  ⟨k.os.trans h.os, k.tape.trans h.tape, k.output.trans h.output, Nat.le_trans h.size k.size, fun i hi hne => by
    refine (k.block i (Nat.lt_of_lt_of_le hi h.size) (fun e => ?_)).trans (h.block i hi hne)
    rcases hr i e.symm with h' | h'
    · omega
    · exact hne h'.symm⟩
theorem grown_drewN {a b : World} {row : Option Nat} (h : a.grownBy b row) (n : Nat) : a.grownBy (b.drewN n) row := ⟨h.os, h.tape, h.output, h.size, h.block⟩
theorem below_drewN {B : Nat} {a w : World} (h : Below B a w) (n : Nat) : Below B a (w.drewN n) := ⟨h.os, h.tape, h.output, h.size, h.block⟩
theorem grown_of_below {a w : World} (h : Below a.heap.size a w) (row : Option Nat) : a.grownBy w row := ⟨h.os, h.tape, h.output, h.size, fun i hi _ => h.block i hi⟩
theorem below_of_grown {a w : World} {row : Option Nat} (h : a.grownBy w row) {B : Nat} (hB : B ≤ a.heap.size) (hr : ∀ g, row = some g → B ≤ g) : Below B a w := (Below.refl B a).grown h hB hr
end Go.Proofs.Ytcgnaokpdlbhbaa
