/- An argument that is a list of bools, as the walks read it. -/
import Derived.Test.YtcgnaokpdlbhbaaBools
import Derived.Deep.Slices
namespace Go.Proofs.Ytcgnaokpdlbhbaa
open Go.ChangeShapes Go.WideShapes Go.ChangeAt Go.RowKit Go.Deep
set_option linter.unusedVariables false
section
variable {H : Type} {enc : TypeId × Value → H} {w : World} {base : Nat} {spare : Nat → Bool} {held : Bool}

/-- From the row's reading of a slice of one-cell elements to the walks'. -/
theorem open_rd1 {P : Program} {t e : TypeId} {ao : Option Addr} {len cap : Nat} {d : DataW H} {p : List MemPlace} {α : Type} [Inhabited α] (f : α → Value) (ht : P.underlying t = some (.slice e)) (hC : P.cellsOf e = 1)
    (hel : ∀ fuel v x, DataW.trod enc P w base spare held fuel e [v] = some x → ∃ a, v = f a) (h : DataW.Trod enc P w base spare held t (.slice ao len cap) d p) :
    ∃ L : Nat → α, Rd w 1 ao len cap (fun i _ => f (L i)) := by
  obtain ⟨fuel, hf⟩ := h
  rcases open_slice ht hf with ⟨hcs, _⟩ | ⟨a, l, c, m, n, D, Pl, hcs, hb, hl, hm, hmm, hx, hi⟩
  · simp [Value.cells] at hcs
    obtain ⟨rfl, rfl, rfl⟩ := hcs
    exact ⟨fun _ => default, Rd.nil _ _ _⟩
  · simp [Value.cells] at hcs
    obtain ⟨rfl, rfl, rfl⟩ := hcs
    have hlm : len ≤ m := by rw [hmm]; split <;> omega
    have hex : ∀ i, i < len → ∃ x : α, w.cell? (a.add i) = some (f x) := by
      intro i hil
      obtain ⟨cs', hc, ht'⟩ := hi i (by omega)
      rw [hC] at hc
      obtain ⟨_, hcl, hat⟩ := World.cells?_some hc
      have h0 := hat 0 (by omega)
      match cs', hcl with
      | [v], _ =>
        obtain ⟨x, rfl⟩ := hel _ _ _ ht'
        refine ⟨x, ?_⟩
        rw [Nat.mul_one] at h0
        rw [add_add, Nat.add_zero] at h0
        simpa using h0
    obtain ⟨L, hL⟩ := choose_lt hex
    refine ⟨L, hl, hm, fun h => by simp at h, ?_⟩
    rcases Nat.eq_zero_or_pos len with h0 | h0
    · exact .inl h0
    · obtain ⟨b, off, spot⟩ := a
      have hc := hL 0 h0
      have hspot : spot = none := by simpa [Addr.add] using World.cell?_spot hc
      subst hspot
      refine .inr ⟨b, off, rfl, ?_, fun i hil j hj => ?_⟩
      · have := World.block_lt_of_cell? w _ hc
        simpa [Addr.add] using this
      · obtain rfl : j = 0 := by omega
        have := hL i hil
        rw [Addr.add_lit] at this
        simpa using this

theorem open_bools8 {ao : Option Addr} {len cap : Nat} {d : DataW H} {p : List MemPlace} (h : DataW.Trod enc Try.prog w base spare held 42 (.slice ao len cap) d p) : ∃ L : Nat → Bool, RdB w ao len cap L :=
  open_rd1 Value.bool Try.underlying42 (by kernel_rfl) (fun fuel v x hx => by
    obtain ⟨b, hb, _⟩ := DataW.trod_bool Try.underlying4 hx
    exact ⟨b, by simpa using hb⟩) h
end
end Go.Proofs.Ytcgnaokpdlbhbaa
