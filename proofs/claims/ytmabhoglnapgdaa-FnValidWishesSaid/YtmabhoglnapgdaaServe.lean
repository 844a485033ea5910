/- serve of program and reference. -/
import Derived.Test.YtmabhoglnapgdaaWish
import Derived.Test.YtmabhoglnapgdaaInts
import Derived.Test.YtmabhoglnapgdaaLies
import Derived.Test.YtmabhoglnapgdaaRowsOf
import Derived.BigRegion
namespace Go.Proofs.Ytmabhoglnapgdaa
open Go.ChangeShapes Go.WideShapes Go.ChangeAt Go.RowKit
set_option linter.unusedVariables false

def freeL (f : Nat → Int) (m : Nat) : List Int := (List.range m).map f
def outL (L : Nat → Wi) (m n k : Nat) : List Int := (List.range n).map fun i => if i < k then outW L m i else 0
theorem freeL_len (f : Nat → Int) (m : Nat) : (freeL f m).length = m := by simp [freeL]
theorem outL_len (L : Nat → Wi) (m n k : Nat) : (outL L m n k).length = n := by simp [outL]
theorem freeL_zero (m : Nat) : (freeL (fun _ => 0) m).map (Value.int .i64) = List.replicate m (.int .i64 0) := by
  apply List.ext_getElem
  · simp [freeL]
  · intro i h1 h2; simp [freeL]
theorem outL_zero (L : Nat → Wi) (m n : Nat) : (outL L m n 0).map (Value.int .i64) = List.replicate n (.int .i64 0) := by
  apply List.ext_getElem
  · simp [outL]
  · intro i h1 h2; simp [outL]
theorem freeL_set {f g : Nat → Int} {m c : Nat} {v : Int} (hc : c < m) (hv : g c = v) (hg : ∀ x, x ≠ c → g x = f x) : ((freeL f m).map (Value.int .i64)).set c (.int .i64 v) = (freeL g m).map (Value.int .i64) := by
  apply List.ext_getElem
  · simp [freeL]
  · intro i h1 h2
    rw [List.getElem_set]
    by_cases hik : c = i
    · subst hik; simp [freeL, hv]
    · rw [if_neg hik]
      simp [freeL, hg i (fun e => hik e.symm)]
theorem outL_set {L : Nat → Wi} {m n k : Nat} (hk : k < n) {v : Int} (hv : outW L m k = v) : ((outL L m n k).map (Value.int .i64)).set k (.int .i64 v) = (outL L m n (k + 1)).map (Value.int .i64) := by
  apply List.ext_getElem
  · simp [outL]
  · intro i h1 h2
    rw [List.getElem_set]
    by_cases hik : k = i
    · subst hik; simp [outL, hv]
    · rw [if_neg hik]
      simp only [outL, List.map_map, List.getElem_map, List.getElem_range, Function.comp]
      have : (i < k + 1) ↔ (i < k) := by omega
      simp [this]
theorem outL_all (L : Nat → Wi) (m n : Nat) : outL L m n n = (List.range n).map (outW L m) := by
  unfold outL; exact List.map_congr_left fun i hi => if_pos (List.mem_range.1 hi)

theorem soonest_calls (ao : Option Addr) (m cap : Nat) (f : Nat → Int) (w : World) (h : RdI w ao m cap f) (hm : 0 < m) :
    Calls Try.prog 55 #[.slice ao m cap] w fun e w' => e = .returned (.int .i64 ((soon f m : Nat) : Int)) ∧ Below w.heap.size w w' := by
  have hlen := h.len
  obtain ⟨b, off, rfl, hb, hc⟩ := h.pos hm
  go_enter Try.func55, Try.ntmps55
  go_wp2
  go_loopw [3, 4] (fun a i wr => ∃ k : Nat, 1 ≤ k ∧ k ≤ m ∧ i = .int .i64 k ∧ a = .int .i64 ((soon f k : Nat) : Int) ∧ Below w.heap.size w wr)
    (fun _ i _ => m - (intOf i).toNat)
  case atStart => exact ⟨1, by omega, hm, rfl, by simp [soon], Below.refl _ _⟩
  case round =>
    obtain ⟨k, hk1, hk, rfl, rfl, hB⟩ := hrel
    have hz := hB.size
    by_cases hlt : k < m
    · have hs := soon_lt f k (by omega)
      have g1 := (hB.cell (p := ⟨b, off + k, none⟩) hb).trans (hc k hlt)
      have g2 := (hB.cell (p := ⟨b, off + soon f k, none⟩) hb).trans (hc (soon f k) (by omega))
      have i1 : (k : Int) < (m : Int) := by omega
      have i2 : ((soon f k : Nat) : Int) < (m : Int) := by omega
      have hstep : soon f (k + 1) = if f k < f (soon f k) then k else soon f k := rfl
      have HS := Lib.hid hstep
      clear hstep hc
      generalize soon f k = sk at *
      cases hd : decide (f k < f sk)
      · go_wp2
        go_quiet (fail)
        go_wp2
        go_roundw
        case rel => exact ⟨k + 1, by omega, by omega, by go_num, by rw [HS.out, if_neg (by simpa using hd)], below_drewN hB _⟩
        case measure => simp [intOf]; omega
      · go_wp2
        go_quiet (fail)
        go_wp2
        go_roundw
        case rel => exact ⟨k + 1, by omega, by omega, by go_num, by rw [HS.out, if_pos (by simpa using hd)], below_drewN hB _⟩
        case measure => simp [intOf]; omega
    · obtain rfl : k = m := by omega
      go_wp2
      go_ret
      exact ⟨rfl, hB⟩

/-- What serve answers. -/
def okS (L : Nat → Wi) (n : Nat) (many : Int) : Bool := vW L n && inB 1 6 many
def RetServe (w : World) (L : Nat → Wi) (n : Nat) (many : Int) (e : Ending) (w' : World) : Prop :=
  (okS L n many = false ∧ e = .returned (.tuple #[.slice none 0 0, .bool false]) ∧ Below w.heap.size w w') ∨
  (okS L n many = true ∧ ∃ v, e = .returned (.tuple #[v, .bool true]) ∧ w'.ownsRow w.heap.size 3 1 v n (((List.range n).map (outW L many.toNat)).map (Value.int .i64)) ∧ (∃ ao cap, v = .slice ao n cap) ∧ Below w.heap.size w w')

theorem FC {wr : World} {B g m : Nat} {f : Nat → Int} (h : wr.ownsRow B 3 1 (.slice (some ⟨g, 0, none⟩) m m) m ((freeL f m).map (Value.int .i64))) (j : Nat) (hj : j < m) : wr.cell? ⟨g, j, none⟩ = some (.int .i64 (f j)) := by
  rw [h.cellAt j (by omega)]
  simp [freeL, hj]
theorem OC {wr : World} {B g n : Nat} {xs : List Int} (h : wr.ownsRow B 3 1 (.slice (some ⟨g, 0, none⟩) n n) n (xs.map (Value.int .i64))) (hl : xs.length = n) (j : Nat) (hj : j < n) : ∃ v, wr.cell? ⟨g, j, none⟩ = some (.int .i64 v) := by
  rw [h.cellAt j (by omega)]
  exact ⟨xs[j]'(by omega), by simp⟩

/-- Two rows of the call's own: the times when connections are free, and the answer. -/
structure FO (w : World) (B g g' m n : Nat) (xs ys : List Value) : Prop where
  f : w.ownsRow B 3 1 (.slice (some ⟨g, 0, none⟩) m m) m xs
  o : w.ownsRow B 3 1 (.slice (some ⟨g', 0, none⟩) n n) n ys
theorem FO.setO {w : World} {B g g' m n : Nat} {xs ys : List Value} (h : FO w B g g' m n xs ys) (hne : g ≠ g') (k : Nat) (u : Value) : FO (w.setCell ⟨g', k, none⟩ u) B g g' m n xs (ys.set k u) :=
  ⟨h.f.kept (h.o.stored k u).2 (.inr (by simp [Value.ownBlock, hne])), (h.o.stored k u).1⟩
theorem FO.setF {w : World} {B g g' m n : Nat} {xs ys : List Value} (h : FO w B g g' m n xs ys) (hne : g ≠ g') (k : Nat) (u : Value) : FO (w.setCell ⟨g, k, none⟩ u) B g g' m n (xs.set k u) ys :=
  ⟨(h.f.stored k u).1, h.o.kept (h.f.stored k u).2 (.inr (by simp [Value.ownBlock]; exact fun e => hne e.symm))⟩
theorem FO.drew {w : World} {B g g' m n : Nat} {xs ys : List Value} (h : FO w B g g' m n xs ys) : FO w.drew B g g' m n xs ys :=
  ⟨h.f.kept (row := none) ⟨rfl, rfl, rfl, Nat.le_refl _, fun _ _ _ => rfl⟩ (.inr (by simp [Value.ownBlock])), h.o.kept (row := none) ⟨rfl, rfl, rfl, Nat.le_refl _, fun _ _ _ => rfl⟩ (.inr (by simp [Value.ownBlock]))⟩
theorem fr_no {L : Nat → Wi} {m k : Nat} (h : fitsW L m k (fr L m k) = false) : fr L m (k + 1) = fr L m k := by
  funext c; rw [fr]; simp [h]
theorem fr_set {L : Nat → Wi} {m k : Nat} (hm : 0 < m) (h : fitsW L m k (fr L m k) = true) : ((freeL (fr L m k) m).map (Value.int .i64)).set (soon (fr L m k) m) (.int .i64 (startW L m k (fr L m k) + (L k).hold)) = (freeL (fr L m (k + 1)) m).map (Value.int .i64) :=
  freeL_set (soon_lt _ m hm) (by rw [fr]; simp [h]) (fun x hx => by rw [fr]; simp [hx])

set_option maxHeartbeats 1000000 in
theorem implserve_calls (ao : Option Addr) (n cap : Nat) (L : Nat → Wi) (many : Int) (w : World) (h : RdW w ao n cap L) :
    Calls Try.prog 50 #[.slice ao n cap, .int .i64 many] w (RetServe w L n many) := by
  obtain ⟨i0, hi, hz0, hz1, hz2⟩ := info_parts infoInt
  have hlen := h.len
  have V := implValidWishes_calls ao n cap L w h
  go_enter Try.func50, Try.ntmps50
  cases hv : vW L n
  · rw [hv] at V
    go_wp2_with (go_at_call 21; refine (V).mono ?_; rintro e w' ⟨rfl, hb1⟩)
    go_returns
    exact .inl ⟨by simp [okS, hv], rfl, by go_grown⟩
  · rw [hv] at V
    cases hin : inB 1 6 many
    · go_wp2_with (go_at_call 21; refine (V).mono ?_; rintro e w' ⟨rfl, hb1⟩)
      go_wp2_with (go_at_call 45; refine (in_calls _ _ _ _).mono ?_; rintro e w' ⟨rfl, rfl⟩)
      go_returns
      exact .inl ⟨by simp [okS, hin], rfl, by go_grown⟩
    · obtain ⟨hm1, hm6⟩ := inB_yes hin
      obtain ⟨m, rfl⟩ : ∃ m : Nat, many = (m : Int) := ⟨many.toNat, by omega⟩
      have hvv := hv
      simp only [vW, Bool.and_eq_true, decide_eq_true_eq] at hvv
      obtain ⟨hok, hn12⟩ := hvv
      have HK := Lib.hid hok
      clear hok
      go_wp2_with first | (go_at_call 21; refine (V).mono ?_; rintro e w' ⟨rfl, hb1⟩) | (go_at_call 45; refine (in_calls _ _ _ _).mono ?_; rintro e w' ⟨rfl, rfl⟩) | (at_make; refine wpList_make_full _ rfl _ _ 36 rfl w.heap.size 3 i0 (.int .i64 0) 1 Try.underlying36 hi hz0 hz1 _ _ _ _ m rfl rfl rfl rfl (by rw [hz2]; omega) (by unfold maxLen; omega) hb1.size ?_)
      intro w2 own2 gr2
      have F2 : w2.ownsRow w.heap.size 3 1 (.slice (some ⟨w'.heap.size, 0, none⟩) m m) m ((freeL (fr L m 0) m).map (Value.int .i64)) := by
        rw [show fr L m 0 = fun _ => 0 from rfl, freeL_zero, ← toList_madeCells_one]; exact own2
      have B2 : Below w.heap.size w w2 := hb1.trans (below_of_grown gr2 hb1.size (fun g hg => by simp at hg))
      have l2 := (F2.lt w'.heap.size (by simp [Value.ownBlock])).2
      have z2 := B2.size
      clear own2 gr2
      go_wp2_with (at_make; refine wpList_make_full _ rfl _ _ 36 rfl w.heap.size 3 i0 (.int .i64 0) 1 Try.underlying36 hi hz0 hz1 _ _ _ _ n rfl rfl rfl rfl (by rw [hz2]; omega) (by unfold maxLen; omega) (by omega) ?_)
      intro w3 own3 gr3
      have O3 : w3.ownsRow w.heap.size 3 1 (.slice (some ⟨w2.heap.size, 0, none⟩) n n) n ((outL L m n 0).map (Value.int .i64)) := by
        rw [outL_zero, ← toList_madeCells_one]; exact own3
      have F3 := F2.kept gr3 (.inr (by simp [Value.ownBlock]))
      have B3 : Below w.heap.size w w3 := B2.trans (below_of_grown gr3 z2 (fun g hg => by simp at hg))
      clear own3 gr3 F2 hi hz0 hz1 hz2
      generalize w'.heap.size = g at *
      generalize w2.heap.size = g' at *
      go_wp2
      go_loopw [29] (fun i wr => ∃ k : Nat, k ≤ n ∧ i = .int .i64 k ∧ wr.ownsRow w.heap.size 3 1 (.slice (some ⟨g, 0, none⟩) m m) m ((freeL (fr L m k) m).map (Value.int .i64)) ∧ wr.ownsRow w.heap.size 3 1 (.slice (some ⟨g', 0, none⟩) n n) n ((outL L m n k).map (Value.int .i64)) ∧ Below w.heap.size w wr)
        (fun i _ => n - (intOf i).toNat)
      case atStart => exact ⟨0, Nat.zero_le _, rfl, F3, O3, B3⟩
      case round =>
        obtain ⟨k, hk, rfl, hF, hO, hB⟩ := hrel
        obtain ⟨wo, rfl⟩ : ∃ x, x = wr := ⟨_, rfl⟩
        have lF := (hF.lt g (by simp [Value.ownBlock])).2
        have lF1 := (hF.lt g (by simp [Value.ownBlock])).1
        have lO := (hO.lt g' (by simp [Value.ownBlock])).2
        by_cases hlt : k < n
        · obtain ⟨b, off, rfl, hb, hc⟩ := h.pos (by omega)
          obtain ⟨q0, q1, q2⟩ := hc k hlt
          have c0 := (hB.cell (p := ⟨b, off + k * 3, none⟩) hb).trans q0
          have c1 := (hB.cell (p := ⟨b, off + k * 3 + 1, none⟩) hb).trans q1
          have c2 := (hB.cell (p := ⟨b, off + k * 3 + 2, none⟩) hb).trans q2
          have i0 : (k : Int) < (n : Int) := by omega
          clear hc q0 q1 q2
          have hcm := soon_lt (fr L m k) m (by omega)
          go_wp2
          go_loopw [36, 10] (fun i c wq => ∃ j : Nat, j ≤ m ∧ i = .int .i64 j ∧ c = .int .i64 ((soon (fr L m k) j : Nat) : Int) ∧ Below wo.heap.size wo wq ∧ wo.heap.size < wq.heap.size ∧ wq.cell? ⟨wo.heap.size, 0, none⟩ = some (.int .i64 (L k).at_) ∧ wq.cell? ⟨wo.heap.size, 1, none⟩ = some (.int .i64 (L k).hold) ∧ wq.cell? ⟨wo.heap.size, 2, none⟩ = some (.int .i64 (L k).pat))
            (fun i _ _ => m - (intOf i).toNat)
          case atStart => exact ⟨0, Nat.zero_le _, rfl, rfl, by go_grown, by go_simp, by go_simp, by go_simp, by go_simp⟩
          case round =>
            obtain ⟨j, hj, rfl, rfl, hB', hz', d0, d1, d2⟩ := hrel
            have hF' := hF.kept (grown_of_below hB' none) (.inr (by simp [Value.ownBlock]))
            by_cases hjm : j < m
            · have hsj : soon (fr L m k) j < m := by
                rcases Nat.eq_zero_or_pos j with rfl | h0
                · simpa [soon] using hjm
                · have := soon_lt (fr L m k) j h0; omega
              have g1 := FC hF' j hjm
              have g2 := FC hF' _ hsj
              have i1 : (j : Int) < (m : Int) := by omega
              have i2 : ((soon (fr L m k) j : Nat) : Int) < (m : Int) := by omega
              have HS := Lib.hid (show soon (fr L m k) (j + 1) = if fr L m k j < fr L m k (soon (fr L m k) j) then j else soon (fr L m k) j from rfl)
              clear hsj hcm
              generalize soon (fr L m k) j = sk at *
              cases hd : decide (fr L m k j < fr L m k sk)
              · go_wp2
                go_roundw
                case rel => exact ⟨j + 1, by omega, by go_num, by rw [HS.out, if_neg (by simpa using hd)], hB', hz', d0, d1, d2⟩
                case measure => simp [intOf]; omega
              · go_wp2
                go_roundw
                case rel => exact ⟨j + 1, by omega, by go_num, by rw [HS.out, if_pos (by simpa using hd)], hB', hz', d0, d1, d2⟩
                case measure => simp [intOf]; omega
            · obtain rfl : m = j := by omega
              have g1 := FC hF' _ hcm
              have i2 : ((soon (fr L m k) m : Nat) : Int) < (m : Int) := by omega
              have hO' := hO.kept (grown_of_below hB' none) (.inr (by simp [Value.ownBlock]))
              obtain ⟨ov, o1⟩ := OC hO' (outL_len _ _ _ _) k hlt
              have fz1 := hO'.frozenAt k
              have fz2 := hF'.frozenAt (soon (fr L m k) m)
              have n1 : ¬ g' = g := by omega
              have n2 : ¬ g' = wo.heap.size := by omega
              obtain ⟨p0, p1, p2, p3, p4, p5⟩ := okW_facts HK.out k hlt
              have hfb := fr_bounds HK.out m k (by omega) (soon (fr L m k) m)
              have FO0 : FO _ w.heap.size g g' m n _ _ := ⟨hF', hO'⟩
              have FO1 := FO0.setO (Ne.symm n1) k (.int .i64 (-1))
              have hB1 : Below w.heap.size w (wr.setCell ⟨g', k, none⟩ (.int .i64 (-1))) := (hB.trans (hB'.mono (by omega))).setCell (by omega) _
              have hst : (if (L k).at_ < fr L m k (soon (fr L m k) m) then fr L m k (soon (fr L m k) m) else (L k).at_) = startW L m k (fr L m k) := by unfold startW; split <;> omega
              have hsb : 0 ≤ startW L m k (fr L m k) ∧ startW L m k (fr L m k) ≤ 1200 := by unfold startW; omega
              cases hfit : fitsW L m k (fr L m k)
              · have hd : decide (startW L m k (fr L m k) ≤ (L k).at_ + (L k).pat) = false := hfit
                have hov : outW L m k = -1 := by unfold outW; rw [hfit]; rfl
                have HF := Lib.hid (fr_no hfit)
                have HE := Lib.hid (outL_set (m := m) hlt hov)
                have HO := Lib.hid FO1
                clear FO0 FO1 hfit hov hO hF hF' hO'
                go_wp2
                go_region
                go_wp2
                go_roundw
                case rel =>
                  have X := HO.out
                  rw [HE.out, ← HF.out] at X
                  exact ⟨k + 1, by omega, by go_num, X.drew.f, X.drew.o, below_drew hB1⟩
                case measure => simp [intOf]; omega
              · have hd : decide (startW L m k (fr L m k) ≤ (L k).at_ + (L k).pat) = true := hfit
                have hov : outW L m k = startW L m k (fr L m k) := by unfold outW; rw [hfit]; rfl
                have HE := Lib.hid (outL_set (m := m) hlt hov)
                have HS := Lib.hid (fr_set (by omega) hfit)
                have FO3 := (FO1.setO (Ne.symm n1) k (.int .i64 (startW L m k (fr L m k)))).setF (Ne.symm n1) (soon (fr L m k) m) (.int .i64 (startW L m k (fr L m k) + (L k).hold))
                rw [List.set_set] at FO3
                have HO := Lib.hid FO3
                have hB3 := (hB1.setCell (p := ⟨g', k, none⟩) (by omega) (.int .i64 (startW L m k (fr L m k)))).setCell (p := ⟨g, soon (fr L m k) m, none⟩) (by omega) (.int .i64 (startW L m k (fr L m k) + (L k).hold))
                clear FO0 FO1 FO3 hfit hov hO hF hF' hO'
                go_wp2
                go_region
                go_wp2
                go_roundw
                case rel =>
                  have X := HO.out
                  rw [HE.out, HS.out] at X
                  exact ⟨k + 1, by omega, by go_num, X.drew.f, X.drew.o, below_drew hB3⟩
                case measure => simp [intOf]; omega
        · obtain rfl : k = n := by omega
          rw [outL_all] at hO
          have HO := Lib.hid hO
          clear hO hF
          go_wp2
          go_returns
          exact .inr ⟨by simp [okS, hv, hin], _, rfl, by simpa using HO.out, ⟨_, _, rfl⟩, hB⟩

theorem RdI_own {wr : World} {B g m : Nat} {f : Nat → Int} (h : wr.ownsRow B 3 1 (.slice (some ⟨g, 0, none⟩) m m) m ((freeL f m).map (Value.int .i64))) (hm : m ≤ 1000) : RdI wr (some ⟨g, 0, none⟩) m m f :=
  ⟨Nat.le_refl _, by unfold maxLen; omega, fun h => by simp at h, .inr ⟨g, 0, rfl, (h.lt g (by simp [Value.ownBlock])).2, fun i hi j hj => by
    have hj1 : j < 1 := hj
    obtain rfl : j = 0 := by omega
    simpa using FC h i hi⟩⟩
/-- The answer so far. -/
def gotL (L : Nat → Wi) (m k : Nat) : List Int := (List.range k).map (outW L m)
theorem gotL_step (L : Nat → Wi) (m k : Nat) {v : Int} (hv : outW L m k = v) : (gotL L m k).map (Value.int .i64) ++ [.int .i64 v] = (gotL L m (k + 1)).map (Value.int .i64) := by
  simp [gotL, List.range_succ, hv]

set_option maxHeartbeats 1000000 in
theorem specserve_calls (ao : Option Addr) (n cap : Nat) (L : Nat → Wi) (m : Nat) (w : World) (h : RdW w ao n cap L) (hv : vW L n = true) (hm : 0 < m) (hm6 : m ≤ 6) :
    Calls Try.prog 52 #[.slice ao n cap, .int .i64 m] w fun e w' => ∃ v, e = .returned v ∧ w'.ownsRow w.heap.size 3 1 v n (((List.range n).map (outW L m)).map (Value.int .i64)) ∧ (∃ ao cap, v = .slice ao n cap) ∧ Below w.heap.size w w' := by
  obtain ⟨i0, hi, hz0, hz1, hz2⟩ := info_parts infoInt
  have hlen := h.len
  have hvv := hv
  simp only [vW, Bool.and_eq_true, decide_eq_true_eq] at hvv
  obtain ⟨hok, hn12⟩ := hvv
  have HK := Lib.hid hok
  clear hok
  go_enter Try.func52, Try.ntmps52
  have O0 : (w.alloc (.cells #[] 3)).ownsRow w.heap.size 3 1 (.slice (some ⟨w.heap.size, 0, none⟩) 0 0) 0 (([] : List Int).map (Value.int .i64)) := World.ownsRow_lit w #[] 0 (Nat.le_refl _) (Nat.zero_le _) rfl
  go_wp2_with (at_make; refine wpList_make_full _ rfl _ _ 36 rfl w.heap.size 3 i0 (.int .i64 0) 1 Try.underlying36 hi hz0 hz1 _ _ _ _ m rfl rfl rfl rfl (by rw [hz2]; omega) (by unfold maxLen; omega) (by simp) ?_)
  intro w2 own2 gr2
  generalize hgs : w.heap.size + 1 = g at *
  have F2 : w2.ownsRow w.heap.size 3 1 (.slice (some ⟨g, 0, none⟩) m m) m ((freeL (fr L m 0) m).map (Value.int .i64)) := by
    rw [show fr L m 0 = fun _ => 0 from rfl, freeL_zero, ← toList_madeCells_one]; exact own2
  have O2 := O0.kept gr2 (.inr (by simp [Value.ownBlock]))
  have B2 : Below w.heap.size w w2 := Below.trans (by go_grown) (below_of_grown gr2 (by simp) (fun g hg => by simp at hg))
  clear own2 gr2 O0 hi hz0 hz1 hz2
  go_wp2
  go_loopw [5, 7] (fun o i wr => ∃ k : Nat, k ≤ n ∧ i = .int .i64 k ∧ wr.ownsRow w.heap.size 3 1 o k ((gotL L m k).map (Value.int .i64)) ∧ wr.ownsRow w.heap.size 3 1 (.slice (some ⟨g, 0, none⟩) m m) m ((freeL (fr L m k) m).map (Value.int .i64)) ∧ o.ownBlock ≠ some g ∧ (∃ ao cap, o = .slice ao k cap) ∧ Below w.heap.size w wr)
    (fun _ i _ => n - (intOf i).toNat)
  case atStart => exact ⟨0, Nat.zero_le _, rfl, O2, F2, by simp [Value.ownBlock]; omega, ⟨_, _, rfl⟩, B2⟩
  case round =>
    obtain ⟨k, hk, rfl, hO, hF, hne, hsl, hB⟩ := hrel
    have lF := (hF.lt g (by simp [Value.ownBlock])).2
    by_cases hlt : k < n
    · obtain ⟨b, off, rfl, hb, hc⟩ := h.pos (by omega)
      have i0 : (k : Int) < (n : Int) := by omega
      have S := soonest_calls _ m m (fr L m k) wr (RdI_own hF (by omega)) hm
      have hcm := soon_lt (fr L m k) m hm
      have i2 : ((soon (fr L m k) m : Nat) : Int) < (m : Int) := by omega
      obtain ⟨p0, p1, p2, p3, p4, p5⟩ := okW_facts HK.out k hlt
      have hfb := fr_bounds HK.out m k (by omega) (soon (fr L m k) m)
      have hst : (if (L k).at_ < fr L m k (soon (fr L m k) m) then fr L m k (soon (fr L m k) m) else (L k).at_) = startW L m k (fr L m k) := by unfold startW; split <;> omega
      have hsb : 0 ≤ startW L m k (fr L m k) ∧ startW L m k (fr L m k) ≤ 1200 := by unfold startW; omega
      go_wp2_with fail
      refine S.mono ?_
      rintro e w' ⟨rfl, hb'⟩
      have hBB := hB.trans (hb'.mono hB.size)
      obtain ⟨q0, q1, q2⟩ := hc k hlt
      have c0 := (hBB.cell (p := ⟨b, off + k * 3, none⟩) hb).trans q0
      have c1 := (hBB.cell (p := ⟨b, off + k * 3 + 1, none⟩) hb).trans q1
      have c2 := (hBB.cell (p := ⟨b, off + k * 3 + 2, none⟩) hb).trans q2
      have hF' := own_below hF hb'
      have hO' := own_below hO hb'
      have g1 := FC hF' _ hcm
      have fz := hF'.frozenAt (soon (fr L m k) m)
      clear hc q0 q1 q2 hF hO S
      go_wp2
      go_region
      go_wp2
      cases hfit : fitsW L m k (fr L m k)
      · have hd : decide (startW L m k (fr L m k) ≤ (L k).at_ + (L k).pat) = false := hfit
        have hd' : decide ((L k).at_ + (L k).pat < startW L m k (fr L m k)) = true := by simpa using hd
        have hov : outW L m k = -1 := by unfold outW; rw [hfit]; rfl
        have HF := Lib.hid (fr_no hfit)
        have HE := Lib.hid (gotL_step L m k hov)
        clear hfit hov
        go_quiet (fail)
        go_wp2_with (at_builtin; refine app1L Try.underlying36 infoInt rfl (by decide) (by decide) (own_below hO' (below_drewN (Below.refl _ _) _)) (by omega) (by have := hBB.size; simp; omega) rfl (by simp [Value.oneCell']) _ _ rfl rfl rfl rfl ?_)
        intro gg cc w3 O3 G3 gl
        have F3 := (own_below hF' (below_drewN (Below.refl _ _) _)).kept G3 (.inr (fun e => hne e.symm))
        have B3 : Below w.heap.size w w3 := (below_drewN hBB _).trans (below_of_grown G3 (by have := hBB.size; simpa using this) (fun x hx => (hO'.lt x hx).1))
        have hne3 : gg ≠ g := by
          rcases gl with gl | gl
          · exact fun e => hne (e ▸ gl)
          · have := hb'.size; have gl' : w'.heap.size < gg := gl; omega
        have O3' : w3.ownsRow w.heap.size 3 1 (.slice (some ⟨gg, 0, none⟩) (k + 1) cc) (k + 1) ((gotL L m (k + 1)).map (Value.int .i64)) := by rw [← HE.out]; exact O3
        have H3 := Lib.hid O3'
        have H4 := Lib.hid F3
        clear O3 O3' F3 hO' hF'
        go_wp2
        go_roundw
        case rel => exact ⟨k + 1, by omega, by go_num, H3.out, by rw [HF.out]; exact H4.out, by simpa [Value.ownBlock] using hne3, ⟨_, _, rfl⟩, B3⟩
        case measure => simp [intOf]; omega
      · have hd : decide (startW L m k (fr L m k) ≤ (L k).at_ + (L k).pat) = true := hfit
        have hd' : decide ((L k).at_ + (L k).pat < startW L m k (fr L m k)) = false := by simpa using hd
        have hov : outW L m k = startW L m k (fr L m k) := by unfold outW; rw [hfit]; rfl
        have HS := Lib.hid (fr_set (by omega) hfit)
        have HE := Lib.hid (gotL_step L m k hov)
        clear hfit hov
        go_quiet (fail)
        have hFX := fun d => (own_below hF' (below_drewN (Below.refl _ _) d)).stored (soon (fr L m k) m) (.int .i64 (startW L m k (fr L m k) + (L k).hold))
        have hOX := fun d => (own_below hO' (below_drewN (Below.refl _ _) d)).kept (hFX d).2 (.inr hne)
        have hBX := fun d => (below_drewN hBB d).setCell (p := ⟨g, soon (fr L m k) m, none⟩) (by simp; omega) (.int .i64 (startW L m k (fr L m k) + (L k).hold))
        have HFX := Lib.hid hFX
        clear hFX
        go_wp2_with (at_builtin; refine app1L Try.underlying36 infoInt rfl (by decide) (by decide) (hOX _) (by omega) (by have := hBB.size; simp; omega) rfl (by simp [Value.oneCell']) _ _ rfl rfl rfl (by rw [World.size_setCell]; rfl) ?_)
        intro gg cc w3 O3 G3 gl
        have F3 := (HFX.out _).1.kept G3 (.inr (fun e => hne e.symm))
        have B3 : Below w.heap.size w w3 := (hBX _).trans (below_of_grown G3 (by have := hBB.size; simpa using this) (fun x hx => (hO'.lt x hx).1))
        have hne3 : gg ≠ g := by
          rcases gl with gl | gl
          · exact fun e => hne (e ▸ gl)
          · have := hb'.size; have gl' : w'.heap.size < gg := gl
            omega
        have O3' : w3.ownsRow w.heap.size 3 1 (.slice (some ⟨gg, 0, none⟩) (k + 1) cc) (k + 1) ((gotL L m (k + 1)).map (Value.int .i64)) := by rw [← HE.out]; exact O3
        rw [HS.out] at F3
        have H3 := Lib.hid O3'
        have H4 := Lib.hid F3
        clear O3 O3' F3 hO' hF' hOX HFX
        go_wp2
        go_roundw
        case rel => exact ⟨k + 1, by omega, by go_num, H3.out, H4.out, by simpa [Value.ownBlock] using hne3, ⟨_, _, rfl⟩, B3⟩
        case measure => simp [intOf]; omega
    · obtain rfl : k = n := by omega
      have HO := Lib.hid hO
      clear hO hF
      go_wp2
      go_ret
      exact ⟨_, rfl, HO.out, hsl, hB⟩
end Go.Proofs.Ytmabhoglnapgdaa
