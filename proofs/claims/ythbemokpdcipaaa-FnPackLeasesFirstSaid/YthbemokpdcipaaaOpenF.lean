/- An argument that is a list of structs of integers, as the walks read it. -/
import Derived.Test.YthbemokpdcipaaaSlice
import Derived.Deep.Slices
import Derived.Deep.Fields
namespace Go.Proofs.Ythbemokpdcipaaa
open Go.ChangeShapes Go.WideShapes Go.ChangeAt Go.RowKit Go.Deep
set_option linter.unusedVariables false
section
variable {H : Type} {enc : TypeId × Value → H} {w : World} {base : Nat} {spare : Nat → Bool} {held : Bool}
theorem open_rdF {P : Program} {t e : TypeId} {fs : Array Field} {ao : Option Addr} {len cap : Nat} {d : DataW H} {p : List MemPlace} (ht : P.underlying t = some (.slice e)) (he : P.underlying e = some (.struct fs)) (hone : oneCellFields P fs = true) (hC : P.cellsOf e = fs.size) (h0 : 0 < fs.size)
    (hint : ∀ (i : Nat) (f : Field), fs[i]? = some f → P.underlying f.type = some (.int .i64)) (h : DataW.Trod enc P w base spare held t (.slice ao len cap) d p) :
    ∃ L : Nat → Nat → Int, Rd w fs.size ao len cap (fun i j => .int .i64 (L i j)) := by
  obtain ⟨fuel, hf⟩ := h
  rcases open_slice ht hf with ⟨hcs, _⟩ | ⟨a, l, c, m, n, D, Pl, hcs, hb, hl, hm, hmm, hx, hi⟩
  · simp [Value.cells] at hcs
    obtain ⟨rfl, rfl, rfl⟩ := hcs
    exact ⟨fun _ _ => 0, Rd.nil _ _ _⟩
  · simp [Value.cells] at hcs
    obtain ⟨rfl, rfl, rfl⟩ := hcs
    have hlm : len ≤ m := by rw [hmm]; split <;> omega
    have hex : ∀ i, i < len → ∃ x : Nat → Int, ∀ j, j < fs.size → w.cell? (a.add (i * fs.size + j)) = some (.int .i64 (x j)) := by
      intro i hil
      obtain ⟨cs', hc, ht'⟩ := hi i (by omega)
      rw [hC] at hc
      obtain ⟨_, hcl, hat⟩ := World.cells?_some hc
      obtain ⟨xs, n', _, hx', _, hlen', hg⟩ := DataW.trod_struct he ht'
      have hej : ∀ j, j < fs.size → ∃ x : Int, w.cell? (a.add (i * fs.size + j)) = some (.int .i64 x) := by
        intro j hj
        obtain ⟨o, k⟩ := hone_of hone j fs[j] (by simp [hj])
        have h1 := hg j fs[j] (by simp [hj])
        rw [o, k, List.getElem?_eq_getElem (by omega)] at h1
        have hj' : j < cs'.length := by omega
        have h2 : (cs'.drop j).take 1 = [cs'[j]] := by rw [List.drop_eq_getElem_cons hj']; rfl
        rw [h2] at h1
        obtain ⟨x, e1, _⟩ := DataW.trod_int (hint j fs[j] (by simp [hj])) h1
        simp at e1
        have h3 := hat j (by omega)
        rw [add_add] at h3
        refine ⟨x, ?_⟩
        rw [h3, List.getElem?_eq_getElem hj', e1]
      obtain ⟨x, hx⟩ := choose_lt hej
      exact ⟨x, hx⟩
    obtain ⟨L, hL⟩ := choose_lt hex
    refine ⟨L, hl, hm, fun h => by simp at h, ?_⟩
    rcases Nat.eq_zero_or_pos len with hz | hz
    · exact .inl hz
    · obtain ⟨b, off, spot⟩ := a
      have hc := hL 0 hz 0 h0
      have hspot : spot = none := by simpa [Addr.add] using World.cell?_spot hc
      subst hspot
      refine .inr ⟨b, off, rfl, ?_, fun i hil j hj => ?_⟩
      · have := World.block_lt_of_cell? w _ hc
        simpa [Addr.add] using this
      · have := hL i hil j hj
        rw [Addr.add_lit] at this
        rw [Nat.add_assoc]; exact this
end
end Go.Proofs.Ythbemokpdcipaaa
