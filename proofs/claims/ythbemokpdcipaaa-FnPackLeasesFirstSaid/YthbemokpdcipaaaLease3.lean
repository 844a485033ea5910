/- BusyAt of program and reference. -/
import Derived.Test.YthbemokpdcipaaaLease2
namespace Go.Proofs.Ythbemokpdcipaaa
open Go.ChangeShapes Go.WideShapes Go.ChangeAt Go.RowKit
set_option linter.unusedVariables false

theorem Rd.recap {w : World} {s : Nat} {ao : Option Addr} {n cap cap' : Nat} {f : Nat → Nat → Value} (h : Rd w s ao n cap f) (h1 : n ≤ cap') (h2 : cap' ≤ maxLen) (h3 : ao = none → cap' = 0) : Rd w s ao n cap' f := ⟨h1, h2, h3, h.2.2.2⟩
theorem own_none {w : World} {base : Nat} {e : TypeId} {s n cap : Nat} {xs : List Value} (h : w.ownsRow base e s (.slice none n cap) n xs) : n = 0 ∧ cap = 0 := by
  rcases h.2 with ⟨hv, h0⟩ | ⟨g, c, _, hv, _⟩
  · injection hv with _ h2 h3; exact ⟨h2, h3⟩
  · injection hv with h1; simp at h1
theorem own_addr {w : World} {base : Nat} {e : TypeId} {s n cap : Nat} {ao : Option Addr} {xs : List Value} (h : w.ownsRow base e s (.slice ao n cap) n xs) : ∀ x, ao = some x → ∃ g, x = ⟨g, 0, none⟩ := by
  intro x hx
  subst hx
  rcases h.2 with ⟨hv, _⟩ | ⟨g, c, _, hv, _⟩
  · injection hv with h1; simp at h1
  · injection hv with h1 _ _; injection h1 with h1; exact ⟨g, h1⟩
theorem own_caps {w : World} {base : Nat} {e : TypeId} {s n cap : Nat} {ao : Option Addr} {xs : List Value} (h : w.ownsRow base e s (.slice ao n cap) n xs) : n ≤ cap ∧ cap ≤ maxLen := by
  rcases h.2 with ⟨hv, h0⟩ | ⟨g, c, _, hv, _, _, h1, h2, _⟩
  · injection hv with _ h2 h3; subst h2 h3; exact ⟨Nat.le_refl _, by unfold maxLen; omega⟩
  · injection hv with _ _ h3; subst h3; exact ⟨h1, h2⟩

theorem clipI_calls (ao : Option Addr) (n cap : Nat) (w : World) (h1 : n ≤ cap) (h2 : cap ≤ maxLen) (hz : ao = none → cap = 0) (hs : ∀ x, ao = some x → ∃ b off, x = ⟨b, off, none⟩) : Calls Try.prog 53 #[.slice ao n cap] w fun e w' => e = .returned (.slice ao n n) ∧ w = w' := by
  unfold maxLen at h2
  cases ao with
  | none =>
    have hc := hz rfl
    subst hc
    have hn0 : n = 0 := by omega
    subst hn0
    go_enter Try.func53, Try.ntmps53
    go_wp2
    go_ret
    exact ⟨rfl, rfl⟩
  | some ad =>
    obtain ⟨b, off, rfl⟩ := hs ad rfl
    have i1 : (n : Int) ≤ (cap : Int) := by omega
    clear hz hs
    go_enter Try.func53, Try.ntmps53
    go_wp2
    go_ret
    exact ⟨rfl, rfl⟩
theorem own_slice {w : World} {base : Nat} {e : TypeId} {s : Nat} {v : Value} {n : Nat} {xs : List Value} (h : w.ownsRow base e s v n xs) : ∃ a c, v = .slice a n c := by
  rcases h.2 with ⟨h1, h2⟩ | ⟨g, c, _, h1, _⟩
  · exact ⟨none, 0, by rw [h1, h2]⟩
  · exact ⟨_, _, h1⟩
/-- Integers in new memory; the capacity told may be less than the memory's. -/
def IntsC (w : World) (n : Nat) (zs : List Int) (e : Ending) (w' : World) : Prop :=
  zs.length = n ∧ ∃ a c c', e = .returned (.slice a n c) ∧ n ≤ c ∧ c ≤ maxLen ∧ (a = none → c = 0) ∧ w'.ownsRow w.heap.size 3 1 (.slice a n c') n (zs.map (Value.int .i64)) ∧ Below w.heap.size w w'

def busyAt (L : Nat → Lz) (n : Nat) (t : Int) : List Int := if vL L n then busyL L t n 6 else []
theorem busyL_yes {L : Nat → Lz} {t : Int} {n m : Nat} (h : hasC L (m : Int) t n = true) : busyL L t n (m + 1) = busyL L t n m ++ [(m : Int)] := by simp [busyL, h]
theorem busyL_no {L : Nat → Lz} {t : Int} {n m : Nat} (h : hasC L (m : Int) t n = false) : busyL L t n (m + 1) = busyL L t n m := by simp [busyL, h]
theorem busyL_short (L : Nat → Lz) (t : Int) (n m : Nat) : (busyL L t n m).length ≤ m := by rw [busyL_len]; exact busyN_le _ _ _ _

set_option maxHeartbeats 800000 in
theorem implBusyAt_calls (ao : Option Addr) (n cap : Nat) (L : Nat → Lz) (t : Int) (w : World) (h : RdL w ao n cap L) :
    Calls Try.prog 28 #[.slice ao n cap, .int .i64 t] w (IntsC w (busyAt L n t).length (busyAt L n t)) := by
  have hlen := h.len
  have V := implValidLeases_calls ao n cap L w h
  cases hv : vL L n
  · have e1 : busyAt L n t = [] := by simp [busyAt, hv]
    rw [e1]
    rw [hv] at V
    clear e1 hv
    go_enter Try.func28, Try.ntmps28
    go_wp2_with (go_at_call 32; refine (V).mono ?_; rintro e w' ⟨rfl, hb⟩)
    go_ret
    exact ⟨rfl, none, 0, 0, rfl, Nat.le_refl _, by unfold maxLen; omega, fun _ => rfl, World.ownsRow_nil _ _ _ _, hb⟩
  · have e1 : busyAt L n t = busyL L t n 6 := by simp [busyAt, hv]
    rw [e1]
    rw [hv] at V
    have HV := Lib.hid hv
    clear e1 hv
    go_enter Try.func28, Try.ntmps28
    go_wp2_with (go_at_call 32; refine (V).mono ?_; rintro e w' ⟨rfl, hb⟩)
    go_loopw [5, 10] (fun o i wr => ∃ m : Nat, m ≤ 6 ∧ i = .int .i64 m ∧ wr.ownsRow w.heap.size 3 1 o (busyL L t n m).length ((busyL L t n m).map (Value.int .i64)) ∧ Below w.heap.size w wr) (fun _ i _ => 6 - (intOf i).toNat)
    case atStart => exact ⟨0, Nat.zero_le _, rfl, World.ownsRow_nil _ _ _ _, hb⟩
    case round =>
      obtain ⟨m, hm, rfl, hO, hB⟩ := hrel
      have hel := busyL_short L t n m
      by_cases hlt : m < 6
      · have i0 : (m : Int) < 6 := by omega
        have hz := hB.size
        go_wp2_with fail
        refine (ownerAt_calls ao n cap L (m : Int) t wr (h.below hB) HV.out).mono ?_
        rintro e w2 ⟨v, rfl, hv, hb2⟩
        have B2 := hB.trans (hb2.mono hz)
        have hz2 := B2.size
        have O2 : w2.ownsRow w.heap.size 3 1 _ _ _ := own_below hO hb2
        cases hh : hasC L (m : Int) t n
        · have HS := Lib.hid (busyL_no hh)
          rw [hh] at hv
          have hvn : ¬ 0 ≤ v := by simpa using hv
          have H3 := Lib.hid O2
          clear hO O2 hv hh
          go_wp2
          go_roundw
          case rel => exact ⟨m + 1, by omega, by go_num, by rw [HS.out]; exact H3.out, B2⟩
          case measure => simp [intOf]; omega
        · have HS := Lib.hid (busyL_yes hh)
          rw [hh] at hv
          have hvn : 0 ≤ v := by simpa using hv
          clear hO hv hh
          go_wp2_with (at_builtin; refine app1 Try.underlying40 infoInt rfl (by decide) (by decide) O2 (by omega) (by omega) rfl (by simp [Value.oneCell']) _ _ rfl rfl rfl rfl ?_)
          intro v' w3 O3 G3
          have O3' : w3.ownsRow w.heap.size 3 1 v' (busyL L t n (m + 1)).length ((busyL L t n (m + 1)).map (Value.int .i64)) := by rw [HS.out]; simpa using O3
          have B3 := B2.grown G3 hz2 (fun g hg => (O2.lt g hg).1)
          have H3 := Lib.hid O3'
          clear O3 O3' O2 G3
          go_wp2
          go_roundw
          case rel => exact ⟨m + 1, by omega, by go_num, H3.out, B3⟩
          case measure => simp [intOf]; omega
      · obtain rfl : m = 6 := by omega
        obtain ⟨a, c, rfl⟩ := own_slice hO
        have hcc := own_caps hO
        have HO := Lib.hid hO
        have hno : a = none → c = 0 := fun e => by subst e; exact (own_none hO).2
        have had : ∀ x, a = some x → ∃ b off, x = ⟨b, off, none⟩ := fun x hx => by obtain ⟨g, hg⟩ := own_addr hO x hx; exact ⟨g, 0, hg⟩
        have hno' : a = none → (busyL L t n 6).length = 0 := fun e => by subst e; exact (own_none hO).1
        have HN := Lib.hid hno'
        clear hO hno'
        generalize hN : (busyL L t n 6).length = N at *
        go_wp2_with fail
        refine (clipI_calls a N c wr hcc.1 hcc.2 hno had).mono ?_
        rintro e w2 ⟨rfl, rfl⟩
        clear hno had
        go_wp2
        go_ret
        exact ⟨hN, a, N, c, rfl, Nat.le_refl _, by omega, HN.out, HO.out, hB⟩

/-- Busy connections with those of the first j leases for the next one. -/
def busyP (L : Nat → Lz) (t : Int) (n m j : Nat) : List Int := busyL L t n m ++ if hasC L (m : Int) t j then [(m : Int)] else []
theorem busyP_zero (L : Nat → Lz) (t : Int) (n m : Nat) : busyP L t n m 0 = busyL L t n m := by simp [busyP, hasC]
theorem busyP_all (L : Nat → Lz) (t : Int) (n m : Nat) : busyP L t n m n = busyL L t n (m + 1) := rfl
theorem hasC_once {L : Nat → Lz} {c t : Int} {n j : Nat} (h : vL L n = true) (hj : j < n) (h1 : (L j).conn = c) (h2 : holdsB (L j) t = true) : hasC L c t j = false := by
  cases hc : hasC L c t j
  · rfl
  · obtain ⟨i, hi, a1, a2⟩ := hasC_iff.1 hc
    have := vL_apart h i j hi hj
    have a := holdsB_iff.1 a2
    have b := holdsB_iff.1 h2
    rw [clashB_iff.2 ⟨by rw [a1, h1], by omega, by omega⟩] at this
    simp at this
theorem busyP_yes {L : Nat → Lz} {t : Int} {n m j : Nat} (h : vL L n = true) (hj : j < n) (h1 : (L j).conn = (m : Int)) (h2 : holdsB (L j) t = true) : busyP L t n m (j + 1) = busyP L t n m j ++ [(m : Int)] := by
  simp only [busyP, hasC_once h hj h1 h2, hasC_yes (Nat.lt_succ_self j) h1 h2]; simp
theorem busyP_no {L : Nat → Lz} {t : Int} {n m j : Nat} (h : (decide ((L j).conn = (m : Int)) && holdsB (L j) t) = false) : busyP L t n m (j + 1) = busyP L t n m j := by
  simp only [busyP, hasC, h, Bool.or_false]
theorem busyP_short (L : Nat → Lz) (t : Int) (n m j : Nat) : (busyP L t n m j).length ≤ m + 1 := by
  have := busyL_short L t n m
  simp only [busyP, List.length_append]
  split <;> simp <;> omega
theorem holds_inB (x : Lz) (t : Int) : holdsB x t = inB x.frm (x.til - 1) t := by
  rw [Bool.eq_iff_iff, holdsB_iff]
  constructor
  · intro h; exact inB_mk (by omega)
  · intro h; have := inB_yes h; omega

set_option maxHeartbeats 1600000 in
theorem specbusyAt_calls (ao : Option Addr) (n cap : Nat) (L : Nat → Lz) (t : Int) (w : World) (h : RdL w ao n cap L) (hv : vL L n = true) :
    Calls Try.prog 55 #[.slice ao n cap, .int .i64 t] w (IntsC w (busyL L t n 6).length (busyL L t n 6)) := by
  have hlen := h.len
  have B0 : Below w.heap.size w (w.alloc (.cells #[] 3)) := (Below.refl _ _).alloc (Nat.le_refl _) _
  have O0 : (w.alloc (.cells #[] 3)).ownsRow w.heap.size 3 1 (.slice (some ⟨w.heap.size, 0, none⟩) 0 0) 0 ((busyL L t n 0).map (Value.int .i64)) := World.ownsRow_lit w #[] 0 (Nat.le_refl _) (Nat.zero_le _) rfl
  have HV := Lib.hid hv
  clear hv
  go_enter Try.func55, Try.ntmps55
  go_wp2
  go_loopw [5, 6] (fun o i wr => ∃ m : Nat, m ≤ 6 ∧ i = .int .i64 m ∧ wr.ownsRow w.heap.size 3 1 o (busyL L t n m).length ((busyL L t n m).map (Value.int .i64)) ∧ Below w.heap.size w wr) (fun _ i _ => 6 - (intOf i).toNat)
  case atStart => exact ⟨0, Nat.zero_le _, rfl, O0, B0⟩
  case round =>
    obtain ⟨m, hm, rfl, hO, hB⟩ := hrel
    by_cases hlt : m < 6
    · have i0 : (m : Int) < 6 := by omega
      rw [← busyP_zero L t n m] at hO
      go_wp2
      go_loopw [5, 7] (fun o i wr => ∃ j : Nat, j ≤ n ∧ i = .int .i64 j ∧ wr.ownsRow w.heap.size 3 1 o (busyP L t n m j).length ((busyP L t n m j).map (Value.int .i64)) ∧ Below w.heap.size w wr) (fun _ i _ => n - (intOf i).toNat)
      case atStart => exact ⟨0, Nat.zero_le _, rfl, hO, hB⟩
      case round =>
        obtain ⟨j, hj, rfl, hO, hB⟩ := hrel
        have hel := busyP_short L t n m j
        by_cases hjn : j < n
        · obtain ⟨b, off, rfl, hbb, hc⟩ := h.pos (by omega)
          obtain ⟨q0, q1, q2, q3⟩ := hc j hjn
          have c0 := (hB.cell (p := ⟨b, off + j * 4, none⟩) hbb).trans q0
          have c2 := (hB.cell (p := ⟨b, off + j * 4 + 2, none⟩) hbb).trans q2
          have c3 := (hB.cell (p := ⟨b, off + j * 4 + 3, none⟩) hbb).trans q3
          have i1 : (j : Int) < (n : Int) := by omega
          have hz := hB.size
          have hvj := vL_at HV.out j hjn
          have w1 : IntKind.i64.wrap ((L j).til - 1) = (L j).til - 1 := IntWalk.i64_in _ (by omega)
          clear hc q0 q1 q2 q3
          by_cases he : (L j).conn = (m : Int)
          · have he' : ((L j).conn == (m : Int)) = true := by simp [he]
            cases hin : inB (L j).frm ((L j).til - 1) t
            · have HS := Lib.hid (busyP_no (n := n) (show (decide ((L j).conn = (m : Int)) && holdsB (L j) t) = false by rw [holds_inB, hin]; simp))
              have H3 := Lib.hid hO
              clear hO he
              go_wp2
              go_quiet ((go_at_call 48; exact quiet_left (inRange_calls _ _ _ _)))
              go_wp2
              go_roundw
              case rel => exact ⟨j + 1, by omega, by go_num, by rw [HS.out]; exact own_below H3.out (below_drewN (Below.refl _ _) _), below_drewN hB _⟩
              case measure => simp [intOf]; omega
            · have HS := Lib.hid (busyP_yes HV.out hjn he (by rw [holds_inB, hin]))
              clear he
              go_wp2
              go_quiet ((go_at_call 48; exact quiet_left (inRange_calls _ _ _ _)))
              go_wp2_with (at_builtin; refine app1 Try.underlying40 infoInt rfl (by decide) (by decide) (own_below hO (below_drewN (Below.refl _ _) _)) (by omega) (by simp; omega) rfl (by simp [Value.oneCell']) _ _ rfl rfl rfl rfl ?_)
              intro v' w3 O3 G3
              have O3' : w3.ownsRow w.heap.size 3 1 v' (busyP L t n m (j + 1)).length ((busyP L t n m (j + 1)).map (Value.int .i64)) := by rw [HS.out]; simpa using O3
              have B3 := (below_drewN hB _).grown G3 hz (fun g hg => (hO.lt g hg).1)
              have H3 := Lib.hid O3'
              clear O3 O3' hO G3
              go_wp2
              go_roundw
              case rel => exact ⟨j + 1, by omega, by go_num, H3.out, B3⟩
              case measure => simp [intOf]; omega
          · have he' : ((L j).conn == (m : Int)) = false := by simp [he]
            have HS := Lib.hid (busyP_no (n := n) (show (decide ((L j).conn = (m : Int)) && holdsB (L j) t) = false by simp [he]))
            have H3 := Lib.hid hO
            clear hO he
            go_wp2
            go_quiet (fail)
            go_wp2
            go_roundw
            case rel => exact ⟨j + 1, by omega, by go_num, by rw [HS.out]; exact own_below H3.out (below_drewN (Below.refl _ _) _), below_drewN hB _⟩
            case measure => simp [intOf]; omega
        · obtain rfl : j = n := by omega
          rw [busyP_all] at hO
          have H3 := Lib.hid hO
          clear hO
          go_wp2
          go_roundw
          case rel => exact ⟨m + 1, by omega, by go_num, H3.out, hB⟩
          case measure => simp [intOf]; omega
    · obtain rfl : m = 6 := by omega
      obtain ⟨a, c, rfl⟩ := own_slice hO
      have hcc := own_caps hO
      have HO := Lib.hid hO
      have HN := Lib.hid (show a = none → c = 0 from fun e => by subst e; exact (own_none hO).2)
      clear hO
      go_wp2
      go_ret
      exact ⟨rfl, a, c, c, rfl, hcc.1, hcc.2, HN.out, HO.out, hB⟩

theorem specBusyAt_calls (ao : Option Addr) (n cap : Nat) (L : Nat → Lz) (t : Int) (w : World) (h : RdL w ao n cap L) :
    Calls Try.prog 31 #[.slice ao n cap, .int .i64 t] w (IntsC w (busyAt L n t).length (busyAt L n t)) := by
  have V := specvalidLeases_calls ao n cap L w h
  cases hv : vL L n
  · have e1 : busyAt L n t = [] := by simp [busyAt, hv]
    rw [e1]
    rw [hv] at V
    clear e1 hv
    go_enter Try.func31, Try.ntmps31
    go_wp2_with (go_at_call 43; refine (V).mono ?_; rintro e w' ⟨rfl, hb⟩)
    go_ret
    exact ⟨rfl, none, 0, 0, rfl, Nat.le_refl _, by unfold maxLen; omega, fun _ => rfl, World.ownsRow_nil _ _ _ _, hb⟩
  · have e1 : busyAt L n t = busyL L t n 6 := by simp [busyAt, hv]
    rw [e1]
    rw [hv] at V
    have HV := Lib.hid hv
    clear e1 hv
    go_enter Try.func31, Try.ntmps31
    go_wp2_with (go_at_call 43; refine (V).mono ?_; rintro e w' ⟨rfl, hb⟩)
    refine (specbusyAt_calls ao n cap L t w' (h.below hb) HV.out).mono ?_
    rintro e w2 ⟨hl, a, c, c', rfl, h1, h2, h3, h4, hb2⟩
    have HO := Lib.hid h4
    have H3 := Lib.hid h3
    have H1 := Lib.hid h1
    have H2 := Lib.hid h2
    clear h1 h2 h3 h4 hl
    generalize hN : (busyL L t n 6).length = N at *
    go_wp2
    go_ret
    exact ⟨hN, a, c, c', rfl, H1.out, H2.out, H3.out, World.ownsRow.mono HO.out hb.size, hb.trans (hb2.mono hb.size)⟩
end Go.Proofs.Ythbemokpdcipaaa
