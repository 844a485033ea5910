/- Rows of several cells: how what the call owns reads, and one element stored. -/
import Derived.Test.YtcgnaokpdlbhbaaSlice
import Derived.OwnWalk
namespace Go.Proofs.Ytcgnaokpdlbhbaa
open Go.ChangeShapes Go.WideShapes Go.ChangeAt Go.RowKit
set_option linter.unusedVariables false

theorem flatR_len {α : Type} (F : Nat → List α) (s : Nat) (hF : ∀ i, (F i).length = s) (n : Nat) : ((List.range n).flatMap F).length = n * s := by
  induction n with
  | zero => simp
  | succ n ih => rw [List.range_succ, List.flatMap_append, List.length_append, ih, Nat.succ_mul]; simp [hF]
theorem flatR_get {α : Type} (F : Nat → List α) (s : Nat) (hF : ∀ i, (F i).length = s) : ∀ n i j, i < n → j < s → ((List.range n).flatMap F)[i * s + j]? = (F i)[j]? := by
  intro n
  induction n with
  | zero => intro i j hi; omega
  | succ n ih =>
    intro i j hi hj
    have hl := flatR_len F s hF n
    rw [List.range_succ, List.flatMap_append]
    by_cases e : i = n
    · subst e
      rw [List.getElem?_append_right (by omega), hl]
      have : i * s + j - i * s = j := by omega
      rw [this]; simp
    · have hlt : i * s + j < n * s := by
        have h1 : (i + 1) * s ≤ n * s := Nat.mul_le_mul_right s (by omega)
        rw [Nat.succ_mul] at h1; omega
      rw [List.getElem?_append_left (by omega)]
      exact ih i j (by omega) hj
theorem flatR_ext {α : Type} (G : Nat → List α) (s : Nat) (hs : 0 < s) (hG : ∀ i, (G i).length = s) (n : Nat) (zs : List α) (hz : zs.length = n * s) (h : ∀ i, i < n → ∀ j, j < s → zs[i * s + j]? = (G i)[j]?) : zs = (List.range n).flatMap G := by
  apply List.ext_getElem?
  intro p
  by_cases hp : p < n * s
  · have h1 : p / s < n := (Nat.div_lt_iff_lt_mul hs).2 hp
    have h2 : p % s < s := Nat.mod_lt _ hs
    have e : p = p / s * s + p % s := by rw [Nat.mul_comm]; exact (Nat.div_add_mod p s).symm
    have a := h (p / s) h1 (p % s) h2
    have b := flatR_get G s hG n (p / s) (p % s) h1 h2
    rw [← e] at a b
    rw [a, b]
  · have hl := flatR_len G s hG n
    rw [List.getElem?_eq_none (by omega), List.getElem?_eq_none (by omega)]
theorem flatR_congr {α : Type} {F G : Nat → List α} {n : Nat} (h : ∀ i, i < n → F i = G i) : (List.range n).flatMap F = (List.range n).flatMap G := by
  induction n with
  | zero => rfl
  | succ n ih => rw [List.range_succ, List.flatMap_append, List.flatMap_append, ih (fun i hi => h i (by omega))]; simp [h n (by omega)]

theorem below_drew {B : Nat} {a w : World} (h : Below B a w) : Below B a w.drew := ⟨h.os, h.tape, h.output, h.size, h.block⟩
theorem grown_alloc' {a w : World} {row : Option Nat} (h : a.grownBy w row) (o : Obj) : a.grownBy (w.alloc o) row :=
  grown_trans h (World.grownBy_alloc w o none) (fun g hg => by simp at hg)
/-- What the call owns reads. -/
theorem Rd_flat {w : World} {base : Nat} {e : TypeId} {s : Nat} {ao : Option Addr} {n cap : Nat} {F : Nat → List Value} (hF : ∀ i, (F i).length = s) (h : w.ownsRow base e s (.slice ao n cap) n ((List.range n).flatMap F)) :
    Rd w s ao n cap (fun i j => (F i).getD j undef) := by
  rcases h.2 with ⟨hv, hn⟩ | ⟨g, c, cur, hv, hbase, hg, hnc, hcm, hcs, htake⟩
  · injection hv with h1 h2 h3
    subst h1 h2 h3
    exact Rd.nil _ _ _
  · injection hv with h1 h2 h3
    subst h1 h3
    refine ⟨hnc, hcm, fun h => by simp at h, .inr ⟨g, 0, rfl, (Array.getElem?_eq_some_iff.1 hg).1, fun i hi j hj => ?_⟩⟩
    rw [cell_of_row w g _ cur e (0, 0) hg, ← Array.getElem?_toList]
    have h1 := flatR_get F s hF n i j hi hj
    rw [← htake, List.getElem?_take] at h1
    have hj' : j < (F i).length := by rw [hF]; exact hj
    split at h1
    · simp only [Nat.zero_add]; rw [h1]; simp [hj']
    · rw [List.getElem?_eq_getElem hj'] at h1; simp at h1
theorem own_base {w : World} {base : Nat} {e : TypeId} {s : Nat} {ao : Option Addr} {n cap : Nat} {xs : List Value} (h : w.ownsRow base e s (.slice ao n cap) n xs) : ∀ b off x, ao = some ⟨b, off, x⟩ → base ≤ b := by
  intro b off x hx
  subst hx
  exact (h.lt b rfl).1
theorem own_below {w w' : World} {B e s n : Nat} {v : Value} {xs : List Value} (h : w.ownsRow B e s v n xs) (hb : Below w.heap.size w w') : w'.ownsRow B e s v n xs := by
  refine h.kept (grown_of_below hb none) ?_
  cases hv : v.ownBlock
  · exact .inl rfl
  · exact .inr (by simp)
theorem own_some {w : World} {base : Nat} {e : TypeId} {s g n cap : Nat} {xs : List Value} (h : w.ownsRow base e s (.slice (some ⟨g, 0, none⟩) n cap) n xs) (j : Nat) (hj : j < n * s) : ∃ v, w.cell? ⟨g, j, none⟩ = some v := by
  rw [h.cellAt j hj]
  exact ⟨_, List.getElem?_eq_getElem (by rw [h.1]; exact hj)⟩
/-- Where there is an element, the row's form. -/
theorem own_form {w : World} {base : Nat} {e : TypeId} {s : Nat} {v : Value} {n : Nat} {xs : List Value} (h : w.ownsRow base e s v n xs) (hn : 0 < n) : ∃ g cap, v = .slice (some ⟨g, 0, none⟩) n cap := by
  rcases h.2 with ⟨_, h0⟩ | ⟨g, cap, _, hv, _⟩
  · omega
  · exact ⟨g, cap, hv⟩

theorem flat_set2 (F : Nat → List Value) (hF : ∀ i, (F i).length = 2) (n k : Nat) (hk : k < n) (a b : Value) :
    ((((List.range n).flatMap F).set (k * 2) a).set (k * 2 + 1) b) = (List.range n).flatMap fun i => if i = k then [a, b] else F i := by
  refine flatR_ext _ 2 (by omega) (fun i => by split <;> simp [hF]) n _ (by simp [flatR_len F 2 hF]) fun i hi j hj => ?_
  have hl := flatR_len F 2 hF n
  have hg := flatR_get F 2 hF n i j hi hj
  simp only [List.getElem?_set, List.length_set, hl]
  by_cases e : i = k
  · subst e
    rw [if_pos rfl]
    have : j = 0 ∨ j = 1 := by omega
    rcases this with rfl | rfl
    · rw [if_neg (by omega), if_pos (by omega), if_pos (by omega)]; rfl
    · rw [if_pos (by omega), if_pos (by omega)]; rfl
  · rw [if_neg e, if_neg (by omega), if_neg (by omega)]; exact hg
theorem flat_set3 (F : Nat → List Value) (hF : ∀ i, (F i).length = 3) (n k : Nat) (hk : k < n) (a b c : Value) :
    (((((List.range n).flatMap F).set (k * 3) a).set (k * 3 + 1) b).set (k * 3 + 2) c) = (List.range n).flatMap fun i => if i = k then [a, b, c] else F i := by
  refine flatR_ext _ 3 (by omega) (fun i => by split <;> simp [hF]) n _ (by simp [flatR_len F 3 hF]) fun i hi j hj => ?_
  have hl := flatR_len F 3 hF n
  have hg := flatR_get F 3 hF n i j hi hj
  simp only [List.getElem?_set, List.length_set, hl]
  by_cases e : i = k
  · subst e
    rw [if_pos rfl]
    have : j = 0 ∨ j = 1 ∨ j = 2 := by omega
    rcases this with rfl | rfl | rfl
    · rw [if_neg (by omega), if_neg (by omega), if_pos (by omega), if_pos (by omega)]; rfl
    · rw [if_neg (by omega), if_pos (by omega), if_pos (by omega)]; rfl
    · rw [if_pos (by omega), if_pos (by omega)]; rfl
  · rw [if_neg e, if_neg (by omega), if_neg (by omega), if_neg (by omega)]; exact hg
theorem flat_set4 (F : Nat → List Value) (hF : ∀ i, (F i).length = 4) (n k : Nat) (hk : k < n) (a b c d : Value) :
    ((((((List.range n).flatMap F).set (k * 4) a).set (k * 4 + 1) b).set (k * 4 + 2) c).set (k * 4 + 3) d) = (List.range n).flatMap fun i => if i = k then [a, b, c, d] else F i := by
  refine flatR_ext _ 4 (by omega) (fun i => by split <;> simp [hF]) n _ (by simp [flatR_len F 4 hF]) fun i hi j hj => ?_
  have hl := flatR_len F 4 hF n
  have hg := flatR_get F 4 hF n i j hi hj
  simp only [List.getElem?_set, List.length_set, hl]
  by_cases e : i = k
  · subst e
    rw [if_pos rfl]
    have : j = 0 ∨ j = 1 ∨ j = 2 ∨ j = 3 := by omega
    rcases this with rfl | rfl | rfl | rfl
    · rw [if_neg (by omega), if_neg (by omega), if_neg (by omega), if_pos (by omega), if_pos (by omega)]; rfl
    · rw [if_neg (by omega), if_neg (by omega), if_pos (by omega), if_pos (by omega)]; rfl
    · rw [if_neg (by omega), if_pos (by omega), if_pos (by omega)]; rfl
    · rw [if_pos (by omega), if_pos (by omega)]; rfl
  · rw [if_neg e, if_neg (by omega), if_neg (by omega), if_neg (by omega), if_neg (by omega)]; exact hg
theorem made_flat (zs : List Value) (s : Nat) (hs : 0 < s) (hz : zs.length = s) (n : Nat) : (madeCells zs.toArray (n * s)).toList = (List.range n).flatMap fun _ => zs := by
  refine flatR_ext _ s hs (fun _ => hz) n _ (by simp [madeCells]) fun i hi j hj => ?_
  have hlt : i * s + j < n * s := by
    have h1 : (i + 1) * s ≤ n * s := Nat.mul_le_mul_right s (by omega)
    rw [Nat.succ_mul] at h1; omega
  have hm : (i * s + j) % s = j := by rw [Nat.add_comm, Nat.add_mul_mod_self_right]; exact Nat.mod_eq_of_lt hj
  have hj' : j < zs.length := by omega
  simp [madeCells, hlt, hz, hm]
  rw [List.getElem?_eq_getElem hj']; rfl
theorem flat_zero (n : Nat) (z : List Value) : (List.range n).flatMap (fun _ => z) = (List.replicate n z).flatten := by
  induction n with
  | zero => rfl
  | succ n ih => rw [List.range_succ, List.flatMap_append, ih, List.replicate_succ']; simp
end Go.Proofs.Ytcgnaokpdlbhbaa
