/- The reference's reader: one of a literal's numbers, and the reader made anew out of a code. -/
import Derived.Test.YtcgnaokpdlbhbaaPick
namespace Go.Proofs.Ytcgnaokpdlbhbaa
open Go.ChangeShapes Go.WideShapes Go.ChangeAt Go.RowKit
set_option linter.unusedVariables false

/-- One of the numbers zs. -/
def One (w : World) (r : Nat) (sl : Value) (k : Nat) (zs : List Int) (e : Ending) (w' : World) : Prop :=
  ∃ v : Int, v ∈ zs ∧ e = .returned (.int .i64 v) ∧ w.grownBy w' (some r) ∧ w'.heap[r]? = some (.cells #[sl, .int .i64 (k + 1 : Nat)] 69 (0, 0))

theorem one_calls (zs : List Int) (m : Nat) (hm : zs.length = m) (g : Nat) (r : Nat) (ao : Option Addr) (l cap : Nat) (c : Nat → Int) (k : Nat) (w : World)
    (hr : w.heap[r]? = some (.cells #[.slice ao l cap, .int .i64 k] 69 (0, 0))) (hk : k ≤ 1000000) (hb : RBytes w r ao l c)
    (hg : w.heap[g]? = some (.cells (zs.map (Value.int .i64)).toArray 3 (0, 0))) (hgr : g ≠ r) (hm0 : 0 < m) (hm1 : m ≤ 1000) :
    Calls Try.prog 54 #[.pointer (some ⟨r, 0, none⟩), .slice (some ⟨g, 0, none⟩) m m] w (One w r (.slice ao l cap) k zs) := by
  have HR := Lib.hid hr
  have HG := Lib.hid hg
  have HM := Lib.hid hm
  clear hr hg hm
  go_enter Try.func54, Try.ntmps54
  go_wp2_with fail
  refine (pick_calls r ao l cap c k m w HR.out hk hb).mono ?_
  rintro e w' ⟨v, rfl, h0, h1, h2, hgrow, hr'⟩
  obtain ⟨j, rfl⟩ := Int.eq_ofNat_of_zero_le h0
  have hj : j < m := by have := h1 (by omega); omega
  have hc : w'.cell? ⟨g, j, none⟩ = some (.int .i64 (zs.getD j 0)) := by
    refine hgrow.cell ?_ (by simpa using hgr)
    rw [cell_of_row w g j _ _ _ HG.out]
    have : j < zs.length := by rw [HM.out]; exact hj
    simp [this]
  have HR' := Lib.hid hr'
  have hgrow' := Lib.hid hgrow
  clear hr' h1 h2 hgrow
  go_wp2
  go_ret
  refine ⟨zs.getD j 0, ?_, ret_int (by simp), hgrow'.out, HR'.out⟩
  have : j < zs.length := by rw [HM.out]; exact hj
  simp [this]

/-- The code as the law's argument: n bytes. -/
def Code8 (w : World) (ao : Option Addr) (n cap : Nat) (c : Nat → Int) : Prop :=
  n ≤ cap ∧ cap ≤ maxLen ∧ (n = 0 ∨ ∃ b off, ao = some ⟨b, off, none⟩ ∧ b < w.heap.size ∧ ∀ i, i < n → w.cell? ⟨b, off + i, none⟩ = some (.int .u8 (c i)) ∧ 0 ≤ c i ∧ c i ≤ 255)
theorem Code8.below {w w' : World} {ao : Option Addr} {n cap : Nat} {c : Nat → Int} (h : Code8 w ao n cap c) (hb : Below w.heap.size w w') : Code8 w' ao n cap c := by
  obtain ⟨h1, h2, h3⟩ := h
  refine ⟨h1, h2, ?_⟩
  rcases h3 with h3 | ⟨b, off, h4, h5, h6⟩
  · exact .inl h3
  · exact .inr ⟨b, off, h4, Nat.lt_of_lt_of_le h5 hb.size, fun i hi => ⟨(hb.cell h5).trans (h6 i hi).1, (h6 i hi).2⟩⟩

/-- THE READER's STATE: its block, from B on; its code's bytes, below B; at most K numbers were picked. -/
def RS (B : Nat) (w : World) (r : Nat) (sl : Value) (K : Nat) : Prop :=
  ∃ (k : Nat) (ao : Option Addr) (l cap : Nat) (c : Nat → Int), k ≤ K ∧ sl = .slice ao l cap ∧ w.heap[r]? = some (.cells #[sl, .int .i64 k] 69 (0, 0)) ∧ B ≤ r ∧
    l ≤ 2000 ∧ (l = 0 ∨ ∃ b off, ao = some ⟨b, off, none⟩ ∧ b < B ∧ ∀ i, i < l → w.cell? ⟨b, off + i, none⟩ = some (.int .u8 (c i)) ∧ 0 ≤ c i ∧ c i ≤ 255)

def NewRd1 (w : World) (e : Ending) (w' : World) : Prop :=
  ∃ (r : Nat) (sl : Value), e = .returned (.pointer (some ⟨r, 0, none⟩)) ∧ RS w.heap.size w' r sl 0 ∧ Below w.heap.size w w'

theorem newReader1 (ao : Option Addr) (n cap : Nat) (c : Nat → Int) (w : World) (h : Code8 w ao n cap c) :
    Calls Try.prog 53 #[.slice ao n cap] w (NewRd1 w) := by
  obtain ⟨h1, h2, h3⟩ := h
  unfold maxLen at h2
  have hbel : Below w.heap.size w (w.alloc (.cells #[.slice ao (min n 2000) cap, .int .i64 0] 69)) := (Below.refl _ _).alloc (Nat.le_refl _) _
  have hrs : RS w.heap.size (w.alloc (.cells #[.slice ao (min n 2000) cap, .int .i64 0] 69)) w.heap.size (.slice ao (min n 2000) cap) 0 := by
    refine ⟨0, ao, min n 2000, cap, c, Nat.le_refl _, rfl, heap_alloc_new w _, Nat.le_refl _, by omega, ?_⟩
    rcases h3 with h3 | ⟨b, off, h4, h5, h6⟩
    · exact .inl (by omega)
    · exact .inr ⟨b, off, h4, h5, fun i hi => ⟨(hbel.cell h5).trans (h6 i (by omega)).1, (h6 i (by omega)).2⟩⟩
  have HR := Lib.hid hrs
  have HB := Lib.hid hbel
  clear hrs hbel
  by_cases hn : 2000 < n
  · have e : min n 2000 = 2000 := by omega
    rw [e] at HR HB
    obtain ⟨b, off, rfl, h5, h6⟩ : ∃ b off, ao = some ⟨b, off, none⟩ ∧ b < w.heap.size ∧ ∀ i, i < n → w.cell? ⟨b, off + i, none⟩ = some (.int .u8 (c i)) ∧ 0 ≤ c i ∧ c i ≤ 255 := by
      rcases h3 with h3 | h3
      · omega
      · exact h3
    clear h3 h6
    go_enter Try.func53, Try.ntmps53
    go_wp2
    go_ret
    exact ⟨w.heap.size, _, rfl, HR.out, HB.out⟩
  · have e : min n 2000 = n := by omega
    rw [e] at HR HB
    clear h3
    go_enter Try.func53, Try.ntmps53
    go_wp2
    go_ret
    exact ⟨w.heap.size, _, rfl, HR.out, HB.out⟩

theorem RS.lt {B : Nat} {w : World} {r : Nat} {sl : Value} {K : Nat} (h : RS B w r sl K) : r < w.heap.size := by
  obtain ⟨k, ao, l, cap, c, _, _, h, _⟩ := h
  exact (Array.getElem?_eq_some_iff.1 h).1
theorem RS.base {B : Nat} {w : World} {r : Nat} {sl : Value} {K : Nat} (h : RS B w r sl K) : B ≤ r := by
  obtain ⟨k, ao, l, cap, c, _, _, _, h, _⟩ := h
  exact h
theorem RS.mono {B : Nat} {w : World} {r : Nat} {sl : Value} {K K' : Nat} (h : RS B w r sl K) (hK : K ≤ K') : RS B w r sl K' := by
  obtain ⟨k, ao, l, cap, c, hk, rest⟩ := h
  exact ⟨k, ao, l, cap, c, Nat.le_trans hk hK, rest⟩

/-- A pick: the reader's own block alone has turned. -/
theorem RS.picked {B : Nat} {w w' : World} {r : Nat} {sl : Value} {K k : Nat} (h : RS B w r sl K) (hg : w.grownBy w' (some r)) (hk : k ≤ K) (hh : w'.heap[r]? = some (.cells #[sl, .int .i64 (k + 1 : Nat)] 69 (0, 0))) : RS B w' r sl (K + 1) := by
  obtain ⟨k0, ao, l, cap, c, hk0, hsl, hr, hB, hl, hb⟩ := h
  refine ⟨k + 1, ao, l, cap, c, by omega, hsl, hh, hB, hl, ?_⟩
  rcases hb with hb | ⟨b, off, h4, h5, h6⟩
  · exact .inl hb
  · exact .inr ⟨b, off, h4, h5, fun i hi => ⟨hg.cell (h6 i hi).1 (by simp; omega), (h6 i hi).2⟩⟩
/-- A step that turns a row g of the call's own, not the reader's. -/
theorem RS.grown {B : Nat} {w w' : World} {r : Nat} {sl : Value} {K : Nat} (h : RS B w r sl K) {row : Option Nat} (hg : w.grownBy w' row) (hrow : ∀ g, row = some g → B ≤ g ∧ g ≠ r) : RS B w' r sl K := by
  have hlt := h.lt
  obtain ⟨k0, ao, l, cap, c, hk0, hsl, hr, hB, hl, hb⟩ := h
  refine ⟨k0, ao, l, cap, c, hk0, hsl, (hg.block r hlt (fun e => (hrow r e.symm).2 rfl)).trans hr, hB, hl, ?_⟩
  rcases hb with hb | ⟨b, off, h4, h5, h6⟩
  · exact .inl hb
  · exact .inr ⟨b, off, h4, h5, fun i hi => ⟨hg.cell (h6 i hi).1 (fun e => by have := (hrow b e.symm).1; omega), (h6 i hi).2⟩⟩
theorem RS.below {B : Nat} {w w' : World} {r : Nat} {sl : Value} {K : Nat} (h : RS B w r sl K) (hb : Below w.heap.size w w') : RS B w' r sl K :=
  h.grown (row := none) ⟨hb.os, hb.tape, hb.output, hb.size, fun i hi _ => hb.block i hi⟩ (fun g hg => by simp at hg)
theorem RS.alloc {B : Nat} {w : World} {r : Nat} {sl : Value} {K : Nat} (h : RS B w r sl K) (o : Obj) : RS B (w.alloc o) r sl K := h.grown (World.grownBy_alloc w o none) (fun g hg => by simp at hg)
theorem RS.drew {B : Nat} {w : World} {r : Nat} {sl : Value} {K : Nat} (h : RS B w r sl K) : RS B w.drew r sl K := h
theorem RS.drewN {B : Nat} {w : World} {r : Nat} {sl : Value} {K : Nat} (h : RS B w r sl K) (n : Nat) : RS B (w.drewN n) r sl K := h

def Pick1 (B : Nat) (w : World) (r : Nat) (sl : Value) (K : Nat) (n : Int) (e : Ending) (w' : World) : Prop :=
  ∃ v : Int, e = .returned (.int .i64 v) ∧ 0 ≤ v ∧ (1 ≤ n → v < n) ∧ RS B w' r sl (K + 1) ∧ w.grownBy w' (some r)
theorem pick1 {B : Nat} {r : Nat} {sl : Value} {K : Nat} (n : Int) {w : World} (h : RS B w r sl K) (hK : K ≤ 1000000) :
    Calls Try.prog 59 #[.pointer (some ⟨r, 0, none⟩), .int .i64 n] w (Pick1 B w r sl K n) := by
  have h0 := h
  obtain ⟨k, ao, l, cap, c, hk, rfl, hr, hB, hl, hb⟩ := h
  refine (pick_calls r ao l cap c k n w hr (by omega) ⟨hl, hb.imp id (fun ⟨b, off, h4, h5, h6⟩ => ⟨b, off, h4, by omega, h6⟩)⟩).mono ?_
  rintro e w' ⟨v, rfl, a, b, _, g, hh⟩
  exact ⟨v, rfl, a, b, h0.picked g hk hh, g⟩

def One1 (B : Nat) (w : World) (r : Nat) (sl : Value) (K : Nat) (zs : List Int) (e : Ending) (w' : World) : Prop :=
  ∃ v : Int, v ∈ zs ∧ e = .returned (.int .i64 v) ∧ RS B w' r sl (K + 1) ∧ w.grownBy w' (some r)
theorem one1 (zs : List Int) {m : Nat} (hm : zs.length = m) {g : Nat} {B : Nat} {r : Nat} {sl : Value} {K : Nat} {w : World} (h : RS B w r sl K) (hK : K ≤ 1000000)
    (hg : w.heap[g]? = some (.cells (zs.map (Value.int .i64)).toArray 3 (0, 0))) (hm0 : 0 < m) (hm1 : m ≤ 1000) :
    Calls Try.prog 54 #[.pointer (some ⟨r, 0, none⟩), .slice (some ⟨g, 0, none⟩) m m] w (One1 B w r sl K zs) := by
  have h0 := h
  obtain ⟨k, ao, l, cap, c, hk, rfl, hr, hB, hl, hb⟩ := h
  refine (one_calls zs m hm g r ao l cap c k w hr (by omega) ⟨hl, hb.imp id (fun ⟨b, off, h4, h5, h6⟩ => ⟨b, off, h4, by omega, h6⟩)⟩ hg ?_ hm0 hm1).mono ?_
  · rintro rfl
    rw [hg] at hr
    simp at hr
  · rintro e w' ⟨v, hv, rfl, g, hh⟩
    exact ⟨v, hv, rfl, h0.picked g hk hh, g⟩

/-- The literal of numbers, just laid. -/
theorem lit_heap (w : World) (zs : List Int) (t : TypeId) : (w.alloc (.cells (zs.map (Value.int .i64)).toArray t)).heap[w.heap.size]? = some (.cells (zs.map (Value.int .i64)).toArray t (0, 0)) := heap_alloc_new w _

theorem lit_heap' {w : World} (zs : List Int) {t : TypeId} {g : Nat} (hg : g = w.heap.size) : (w.alloc (.cells (zs.map (Value.int .i64)).toArray t)).heap[g]? = some (.cells (zs.map (Value.int .i64)).toArray t (0, 0)) := by
  subst hg; exact heap_alloc_new w _

/-- What a pick leaves is below: the reader's block is the call's own. -/
theorem below_pick {B B' : Nat} {a w w' : World} {r : Nat} {sl : Value} {K : Nat} (h : Below B a w) (hB : B ≤ w.heap.size) (hr : RS B' w r sl K) (hBB : B ≤ B') (hg : w.grownBy w' (some r)) : Below B a w' :=
  h.grown hg hB (fun k hk => by have := hr.base; simp at hk; omega)
end Go.Proofs.Ytcgnaokpdlbhbaa
