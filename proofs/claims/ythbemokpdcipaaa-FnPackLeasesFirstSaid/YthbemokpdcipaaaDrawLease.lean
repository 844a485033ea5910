/- The drawn leases. -/
import Derived.Test.YthbemokpdcipaaaLease5
import Derived.Test.YthbemokpdcipaaaSteps
namespace Go.Proofs.Ythbemokpdcipaaa
open Go.ChangeShapes Go.WideShapes Go.ChangeAt Go.RowKit
set_option linter.unusedVariables false

theorem own_empty {W : World} {e : TypeId} {s base q : Nat} (h : W.heap[q]? = some (.cells #[] e (0, 0))) (hb : base ≤ q) : W.ownsRow base e s (.slice (some ⟨q, 0, none⟩) 0 0) 0 [] :=
  ⟨by simp, .inr ⟨q, 0, #[], rfl, hb, h, Nat.le_refl _, Nat.zero_le _, by simp, by simp⟩⟩
theorem heap_past {W : World} {o o' : Obj} {q : Nat} (h : W.heap[q]? = some o) : (W.alloc o').heap[q]? = some o := by
  have hq := (Array.getElem?_eq_some_iff.1 h).1
  rw [← h]
  exact (World.grownBy_alloc W o' none).block q hq (by simp)
theorem heap_new {W : World} {o : Obj} {q : Nat} (h : W.heap.size = q) : (W.alloc o).heap[q]? = some o := by subst h; exact heap_alloc_new _ _

/-- What AddLease answers: nothing, or a longer list in new memory. -/
def AddR (w : World) (n : Nat) (e : Ending) (w' : World) : Prop :=
  (e = .returned (.tuple #[.slice none 0 0, .bool false]) ∧ Below w.heap.size w w') ∨
  ∃ (M : Nat → Lz) (a : Option Addr) (c : Nat), e = .returned (.tuple #[.slice a (n + 1) c, .bool true]) ∧ w'.ownsRow w.heap.size 29 4 (.slice a (n + 1) c) (n + 1) (rowsL M (n + 1)) ∧ Below w.heap.size w w'

set_option maxHeartbeats 1600000 in
theorem AddLease_calls (ao : Option Addr) (n cap : Nat) (L : Nat → Lz) (x : Lz) (w : World) (h : RdL w ao n cap L) (hn : n ≤ 100) :
    Calls Try.prog 71 #[.slice ao n cap, .agg #[.int .i64 x.conn, .int .i64 x.owner, .int .i64 x.frm, .int .i64 x.til]] w (AddR w n) := by
  have hlen := h.len
  go_enter Try.func71, Try.ntmps71
  go_wp2
  have B1 : Below w.heap.size w (w.alloc (.cells #[.int .i64 x.conn, .int .i64 x.owner, .int .i64 x.frm, .int .i64 x.til] 29)) := (Below.refl _ _).alloc (Nat.le_refl _) _
  have R1 := h.below B1
  have X1 : BoxL (w.alloc (.cells #[.int .i64 x.conn, .int .i64 x.owner, .int .i64 x.frm, .int .i64 x.til] 29)) w.heap.size x := heap_alloc_new _ _
  have z1 : (w.alloc (.cells #[.int .i64 x.conn, .int .i64 x.owner, .int .i64 x.frm, .int .i64 x.til] 29)).heap.size = w.heap.size + 1 := by simp
  generalize (w.alloc (.cells #[.int .i64 x.conn, .int .i64 x.owner, .int .i64 x.frm, .int .i64 x.til] 29)) = w1 at *
  obtain ⟨c0, c1, c2, c3⟩ := X1.cells
  have HB1 := Lib.hid B1
  clear h B1
  generalize hg : w.heap.size = g at *
  have zd : w1.drew.heap.size = g + 1 := z1
  have Ea := heap_new (o := .cells #[] 29) zd
  have Eb := heap_past (o' := .cells #[.int .i64 x.conn, .int .i64 x.owner, .int .i64 x.frm, .int .i64 x.til] 29) Ea
  have Xb := heap_new (W := w1.drew.alloc (.cells #[] 29)) (o := .cells #[.int .i64 x.conn, .int .i64 x.owner, .int .i64 x.frm, .int .i64 x.til] 29) (q := g + 1 + 1) (by simp [z1])
  have Xc0 := heap_new (o := .cells #[.int .i64 x.conn, .int .i64 x.owner, .int .i64 x.frm, .int .i64 x.til] 29) zd
  have Ec := heap_new (W := w1.drew.alloc (.cells #[.int .i64 x.conn, .int .i64 x.owner, .int .i64 x.frm, .int .i64 x.til] 29)) (o := .cells #[] 29) (q := g + 1 + 1) (by simp [z1])
  have Xc := heap_past (o' := .cells #[] 29) Xc0
  have Oa := Lib.hid (own_empty (s := 4) (base := w1.heap.size) Ea (by omega))
  have Ob := Lib.hid (own_empty (s := 4) (base := w1.heap.size) Eb (by omega))
  have Oc := Lib.hid (own_empty (s := 4) (base := w1.heap.size) Ec (by omega))
  have Hb := Lib.hid Xb
  have Hc := Lib.hid Xc
  clear Ea Eb Xb Xc0 Ec Xc
  go_region_held3 (fun w' => w'.cell? ⟨g, 0, none⟩ = some (.int .i64 x.conn) ∧ w'.cell? ⟨g, 1, none⟩ = some (.int .i64 x.owner) ∧ w'.cell? ⟨g, 2, none⟩ = some (.int .i64 x.frm) ∧ w'.cell? ⟨g, 3, none⟩ = some (.int .i64 x.til)) (go_keep)
    (first
      | (refine step_app1 Try.underlying23 infoLease rfl (by decide) (by decide) (O2) (by omega) B2.size (by rfl) (by simp [Value.oneCell']) hx2 _ _ (by rfl) (by rfl) (by rfl) (by rfl) ?_; intro v' w3 O3 G3; have B3 : Below w1.heap.size w1 w3 := Below.grown B2 G3 B2.size (fun q hq => (hlo2 q hq).1); obtain ⟨s0, s1, s2, s3⟩ := (X1.below B3).cells)
      | (refine step_app1 Try.underlying23 infoLease rfl (by decide) (by decide) (O2.alloc _) (by omega) (by simp; have := B2.size; omega) (by rfl) (by simp [Value.oneCell']) (heap_alloc_new _ _) _ _ (by rfl) (by rfl) (by rfl) (by rfl) ?_; intro v' w3 O3 G3; have B3 : Below w1.heap.size w1 w3 := Below.grown (B2.alloc B2.size _) G3 (by simp; have := B2.size; omega) (fun q hq => (hlo2 q hq).1); obtain ⟨s0, s1, s2, s3⟩ := (X1.below B3).cells)
      | (refine step_appAll Try.underlying23 infoLease rfl (by decide) (by decide) (by first | exact Oa.out | exact Ob.out | exact Oc.out) (RdL.below R1 (by go_grown)) (by omega) (by simp <;> omega) (fun i j _ _ => by unfold lcell; split <;> rfl) _ _ (by rfl) (by rfl) (by rfl) (by rfl) ?_; intro v1 w2 O2 G2; have B2 : Below w1.heap.size w1 w2 := Below.grown (by go_grown) G2 (by simp <;> omega) (fun q hq => by simp [Value.ownBlock] at hq; omega); have hlo2 := O2.lt; obtain ⟨s0, s1, s2, s3⟩ := (X1.below B2).cells; (first | (have hx2 := (G2.block _ (by simp [z1]) (by simp [Value.ownBlock])).trans Hb.out) | (have hx2 := (G2.block _ (by simp [z1]; try omega) (by simp [Value.ownBlock])).trans Hc.out) | skip)))
  all_goals
    subst hg
    have O4 : w3.ownsRow w1.heap.size 29 4 v' (n + 1) (rowsL (fun i => if i = n then x else L i) (n + 1)) := by
      rw [← rowsL_snoc, ← rowsL_rows]; simpa [lenc] using O3
    obtain ⟨a, c, rfl⟩ := own_slice O4
    have R4 := RdL_of_own O4
    have hB3 : Below w.heap.size w w3 := HB1.out.trans (B3.mono HB1.out.size)
    have H4 := Lib.hid (World.ownsRow.mono O4 HB1.out.size)
    have V := specvalidLeases_calls ao n cap L w3 (RdL.below R1 B3)
    have V2 := fun w' (hb : Below w3.heap.size w3 w') => specvalidLeases_calls a (n + 1) c _ w' (RdL.below R4 hb)
    clear O2 O3 O4 G2 G3
    generalize hM : (fun i => if i = n then x else L i) = M at *
    clear hM
    cases hv : vL L n
    · rw [hv] at V
      clear V2
      go_wp2_with (go_at_call 43; refine (V).mono ?_; rintro e w' ⟨rfl, hb⟩)
      go_returns
      exact .inl ⟨rfl, hB3.trans (hb.mono hB3.size)⟩
    · rw [hv] at V
      cases hv2 : vL M (n + 1)
      · rw [hv2] at V2
        go_wp2_with fail
        refine V.mono ?_
        rintro e w4 ⟨rfl, hb⟩
        go_wp2_with fail
        refine (V2 _ hb).mono ?_
        rintro e w5 ⟨rfl, hb5⟩
        have hB5 := hB3.trans ((hb.trans (hb5.mono hb.size)).mono hB3.size)
        go_wp2
        go_returns
        exact .inl ⟨rfl, hB5⟩
      · rw [hv2] at V2
        go_wp2_with fail
        refine V.mono ?_
        rintro e w4 ⟨rfl, hb⟩
        go_wp2_with fail
        refine (V2 _ hb).mono ?_
        rintro e w5 ⟨rfl, hb5⟩
        have hB5 := hB3.trans ((hb.trans (hb5.mono hb.size)).mono hB3.size)
        go_wp2
        go_returns
        exact .inr ⟨M, a, c, rfl, own_below H4.out (hb.trans (hb5.mono hb.size)), hB5⟩
end Go.Proofs.Ythbemokpdcipaaa
