/- The drawn times; the arguments of BreakerPath. -/
import Derived.Test.YtcgnaokpdlbhbaaDrawPath
namespace Go.Proofs.Ytcgnaokpdlbhbaa
open Go.ChangeShapes Go.WideShapes Go.ChangeAt Go.RowKit
set_option linter.unusedVariables false

set_option maxHeartbeats 1000000 in
theorem someTimes_calls {B : Nat} {r : Nat} {sl : Value} {K : Nat} (w : World) (h : RS B w r sl K) (hK : K ≤ 100000) (many : Nat) (hmany : many ≤ 13) (from' : Int) (hf0 : -1000 ≤ from') (hf1 : from' ≤ 2000) :
    Calls Try.prog 62 #[.pointer (some ⟨r, 0, none⟩), .int .i64 many, .int .i64 from'] w (DrawnI B w r sl (K + 30)) := by
  have hrlt := h.lt
  have hbase := h.base
  go_enter Try.func62, Try.ntmps62
  go_wp2_with fail
  refine (pick1 10 (h.alloc _) (by omega)).mono ?_
  rintro e w1 ⟨v, rfl, hv0, hv1, R1, G1⟩
  have hv1' := hv1 (by omega)
  have O1 : w1.ownsRow w.heap.size 3 1 (.slice (some ⟨w.heap.size, 0, none⟩) 0 0) 0 (([] : List Int).map (Value.int .i64)) := by
    refine World.ownsRow.kept (w := w.alloc (.cells #[] 3)) ?_ G1 ?_
    · exact World.ownsRow_lit w #[] 0 (Nat.le_refl _) (Nat.zero_le _) rfl
    · right; simp [Value.ownBlock]; omega
  have G1' : w.grownBy w1 (some r) := grown_trans (World.grownBy_alloc w _ (some r)) G1 (fun g hg => .inr hg)
  clear hv1 G1
  go_wp2
  go_loopw [7, 8, 9] (fun o t nn wr => ∃ (zs : List Int) (x : Int) (j : Nat), t = .int .i64 x ∧ nn = .int .i64 j ∧ wr.ownsRow w.heap.size 3 1 o zs.length (zs.map (Value.int .i64)) ∧ zs.length + j ≤ 13 ∧ -1000 ≤ x ∧ x ≤ 2010 + 20 * zs.length ∧ RS B wr r sl (K + 1 + zs.length) ∧ w.grownBy wr (some r))
    (fun _ _ nn _ => (intOf nn).toNat)
  case atStart => exact ⟨[], _, many, rfl, rfl, O1, by simpa using hmany, by omega, by simp; omega, R1, G1'⟩
  case round =>
    obtain ⟨zs, x, j, rfl, rfl, hown, hxj, hx0, hx1, hR, hG⟩ := hrel
    by_cases hj : 0 < j
    · have hrs := hG.size
      have hlt := hown.lt
      go_wp2_with (at_builtin; refine app1 Try.underlying43 infoInt rfl (by decide) (by decide) hown (by omega) (by omega) rfl (by simp [Value.oneCell']) _ _ rfl rfl rfl rfl ?_)
      intro v' w2 O2 G2
      have O2' : w2.ownsRow w.heap.size 3 1 v' (zs ++ [x]).length ((zs ++ [x]).map (Value.int .i64)) := by simpa using O2
      have R2 := hR.grown G2 (fun g hg => by have := hlt g hg; omega)
      have G02 := grown_trans hG G2 (fun g hg => by have := hlt g hg; omega)
      clear O2 G2 hR hG hown
      go_wp2_with fail
      refine (one1 [0, 1, 5, 20, 3] rfl (R2.alloc _) (by omega) (lit_heap' [0, 1, 5, 20, 3] (by simp)) (by simp) (by simp)).mono ?_
      rintro e w3 ⟨u, hu, rfl, R3, G3⟩
      have hu' : 0 ≤ u ∧ u ≤ 20 := by simp at hu; omega
      have lt2 := O2'.lt
      have O3 := (O2'.alloc (.cells ([0, 1, 5, 20, 3].map (Value.int .i64)).toArray 3)).kept G3 (.inr (fun e => by have := lt2 _ e; omega))
      have G03 := grown_trans (grown_alloc' G02 (.cells ([0, 1, 5, 20, 3].map (Value.int .i64)).toArray 3)) G3 (fun g hg => .inr hg)
      have HO := Lib.hid O3
      have HR := Lib.hid (R3.mono (K' := K + 1 + (zs ++ [x]).length) (by simp; omega))
      have HG := Lib.hid G03
      clear hu O2' R2 G02 R3 G3 O3 G03
      go_wp2
      go_roundw
      case rel => exact ⟨zs ++ [x], x + u, j - 1, rfl, by go_num, HO.out, by simp; omega, by omega, by simp; omega, HR.out, HG.out⟩
      case measure => simp [intOf]; omega
    · obtain rfl : j = 0 := by omega
      obtain ⟨a, c, rfl⟩ := own_slice hown
      have hfr := own_base hown
      have HF := Lib.hid hfr
      have HG := Lib.hid hG
      have hs := hG.size
      have S := spoil_calls wr hR (by omega) a zs.length c _ 1001 (RdI_of_ownL rfl hown) (by omega)
      clear hown hfr hG hR
      go_wp2_with fail
      refine S.mono ?_
      rintro e w4 ⟨T, m, a4, c4, rfl, hm, RT, F4, R4, G4⟩
      have HRT := Lib.hid RT
      have HF4 := Lib.hid F4
      clear S RT F4
      go_wp2
      go_ret
      exact ⟨T, m, a4, c4, rfl, hm, HRT.out, fun b off x hx => by have := HF4.out b off x hx; omega, R4.mono (by omega), grown_trans HG.out G4 (fun g hg => .inr hg)⟩

theorem set1_grown (w : World) (F j : Nat) (u : Value) : w.grownBy (w.setCell ⟨F, j, none⟩ u) (some F) :=
  ⟨rfl, rfl, rfl, by simp [World.setCell], fun k hk hne => heap_setCell_other w _ k _ (fun e => hne (by simp [e]))⟩
theorem set5_grown (w : World) (F : Nat) (a b c d e : Value) : w.grownBy (((((w.setCell ⟨F, 0, none⟩ a).setCell ⟨F, 1, none⟩ b).setCell ⟨F, 2, none⟩ c).setCell ⟨F, 3, none⟩ d).setCell ⟨F, 4, none⟩ e) (some F) :=
  grown_trans (grown_trans (grown_trans (grown_trans (set1_grown w F 0 a) (set1_grown _ F 1 b) (fun _ h => .inr h)) (set1_grown _ F 2 c) (fun _ h => .inr h)) (set1_grown _ F 3 d) (fun _ h => .inr h)) (set1_grown _ F 4 e) (fun _ h => .inr h)
theorem grown_of_drew {a b : World} {row : Option Nat} (h : a.drew.grownBy b row) : a.grownBy b row := ⟨h.os, h.tape, h.output, h.size, h.block⟩
/-- What is drawn. -/
def DrawnP (w : World) (e : Ending) (w' : World) : Prop :=
  ∃ (b : Bk) (n : Nat) (G : Nat → Bool) (ag : Option Addr) (cg : Nat) (m : Nat) (T : Nat → Int) (at' : Option Addr) (ct : Nat),
    e = .returned (.tuple #[.agg #[.int .i64 b.limit, .int .i64 b.rest, .int .i64 b.state, .int .i64 b.fails, .int .i64 b.since], .slice ag n cg, .slice at' m ct]) ∧ n ≤ 13 ∧ m ≤ 14 ∧ RdB w' ag n cg G ∧ RdI w' at' m ct T ∧ Below w.heap.size w w'

set_option maxHeartbeats 1600000 in
theorem drawBreakerPath_calls (ao : Option Addr) (n cap : Nat) (c : Nat → Int) (w : World) (h : Code8 w ao n cap c) : Calls Try.prog 42 #[.slice ao n cap] w (DrawnP w) := by
  have HA : Code8 (w.alloc (.cells #[.int .i64 0, .int .i64 0, .int .i64 0, .int .i64 0, .int .i64 0] 25)) ao n cap c := h.below ((Below.refl _ _).alloc (Nat.le_refl _) _)
  have HA := Lib.hid HA
  go_enter Try.func42, Try.ntmps42
  go_wp2_with fail
  refine (newReader1 ao n cap c _ HA.out).mono ?_
  rintro e w1 ⟨r, sl, rfl, R1, hb1⟩
  have s1 := hb1.size
  simp at s1
  have B1 : Below w.heap.size w w1 := Below.trans (by go_grown) (hb1.mono (by first | omega | (simp; done) | (simp; omega)))
  have hrb := R1.base
  simp at hrb
  obtain ⟨hc1, hf1⟩ := bcell hb1
  go_wp2_with fail
  refine (anyBreaker_calls w1 R1 (by omega)).mono ?_
  rintro e w2 ⟨b, rfl, hb, R2, G2⟩
  have B2 : Below w.heap.size w w2 := B1.grown G2 B1.size (fun g hg => by simp at hg; omega)
  have H2 := keepB G2 (L := w.heap.size) ((hb1.block w.heap.size (by simp)).trans (heap_alloc_new w _)) (by omega)
  have H2 := Lib.hid H2
  have hrlt := R2.lt
  have hbd := hb
  unfold bdB at hbd
  have hL2 : w.heap.size < w2.heap.size := by have := G2.size; omega
  have hneH : w.heap.size ≠ r := by omega
  have hneL : w2.heap.size ≠ r := by omega
  have HL : (w2.alloc (.cells #[.int .i64 b.limit, .int .i64 b.rest, .int .i64 b.state, .int .i64 b.fails, .int .i64 b.since] 25)).heap[w2.heap.size]? = some (.cells #[.int .i64 b.limit, .int .i64 b.rest, .int .i64 b.state, .int .i64 b.fails, .int .i64 b.since] 25 (0, 0)) := heap_alloc_new w2 _
  have HL := Lib.hid HL
  have n1 : ¬ w2.heap.size = w.heap.size := by omega
  have n2 : ¬ w.heap.size = w2.heap.size := by omega
  go_wp2_with fail
  refine (someChecks_calls _ (R2.alloc _) (by omega)).mono ?_
  rintro e w3 ⟨Ls, ag, cg, rfl, hl, RG, FG, R3, G3⟩
  have B3 : Below w.heap.size w w3 := Below.grown (a := w) (w := w2.alloc _) (by go_grown) G3 (by have := B2.size; simp; omega) (fun g hg => by simp at hg; omega)
  have H3 := Lib.hid (keepB G3 (keepA H2.out _) hneH)
  have L3 := Lib.hid (keepB G3 HL.out hneL)
  clear H2 HL
  obtain ⟨l0, l1, l2, l3, l4, _, _, _, _, _⟩ := blk5 L3.out
  have hg3 := G3.size
  simp at hg3
  have RG' := RG
  have HRG := Lib.hid RG
  have HFG := Lib.hid FG
  clear RG FG RG'
  go_wp2_with fail
  go_region_held3 (fun W => W.cell? ⟨w2.heap.size, 0, none⟩ = some (.int .i64 b.limit) ∧ W.cell? ⟨w2.heap.size, 1, none⟩ = some (.int .i64 b.rest) ∧ W.cell? ⟨w2.heap.size, 2, none⟩ = some (.int .i64 b.state) ∧ W.cell? ⟨w2.heap.size, 3, none⟩ = some (.int .i64 b.fails) ∧ W.cell? ⟨w2.heap.size, 4, none⟩ = some (.int .i64 b.since)) (go_keep)
    (first | (go_at_call 62; refine (someTimes_calls _ (by first | exact R3 | exact R3.drew) (by omega) Ls.length (by omega) b.since (by omega) (by omega)).mono ?_; rintro e w4 ⟨T, m, at4, ct4, rfl, hm, RT, FT, R4, G4⟩; obtain ⟨q0, q1, q2, q3, q4, p0, p1, p2, p3, p4⟩ := blk5 (keepB G4 (by first | exact H3.out | exact H3.out) hneH); obtain ⟨q0', q1', q2', q3', q4', _, _, _, _, _⟩ := blk5 (keepB G4 (by first | exact L3.out | exact L3.out) hneL)))
  have G34 : w3.grownBy w4 (some r) := grown_of_drew G4
  have hg4 := G34.size
  have B4 : Below w.heap.size w w4 := B3.grown G34 B3.size (fun g hg => by simp at hg; omega)
  have RG4 := Rd.grown HRG.out G34 (fun b' off x hx => by have := HFG.out b' off x hx; simp at this; simp; omega)
  have G5 := set5_grown w4 w.heap.size (.int .i64 b.limit) (.int .i64 b.rest) (.int .i64 b.state) (.int .i64 b.fails) (.int .i64 b.since)
  have RG5 := Lib.hid (Rd.grown RG4 G5 (fun b' off x hx => by have := HFG.out b' off x hx; simp at this; simp; omega))
  have RT5 := Lib.hid (Rd.grown RT G5 (fun b' off x hx => by have h := FT b' off x hx; simp at h; simp; omega))
  have B5 := B4.grown G5 (by have := B4.size; omega) (fun g hg => by simp at hg; omega)
  have H5 := set5_same (keepB G4 H3.out hneH) (.int .i64 b.limit) (.int .i64 b.rest) (.int .i64 b.state) (.int .i64 b.fails) (.int .i64 b.since)
  obtain ⟨k0, k1, k2, k3, k4, _, _, _, _, _⟩ := blk5 H5
  clear RG4 G5 H5 RT FT
  generalize (((((w4.setCell ⟨w.heap.size, 0, none⟩ (.int .i64 b.limit)).setCell ⟨w.heap.size, 1, none⟩ (.int .i64 b.rest)).setCell ⟨w.heap.size, 2, none⟩ (.int .i64 b.state)).setCell ⟨w.heap.size, 3, none⟩ (.int .i64 b.fails)).setCell ⟨w.heap.size, 4, none⟩ (.int .i64 b.since)) = w5 at *
  go_wp2
  refine bodyPost_ret (v := .tuple #[.agg #[.int .i64 b.limit, .int .i64 b.rest, .int .i64 b.state, .int .i64 b.fails, .int .i64 b.since], .slice ag Ls.length cg, .slice at4 m ct4]) (by simp [results, Try.results42, go_sem, *]) rfl ?_
  exact ⟨b, Ls.length, _, ag, cg, m, T, at4, ct4, rfl, hl, hm, RG5.out, RT5.out, B5⟩
end Go.Proofs.Ytcgnaokpdlbhbaa
