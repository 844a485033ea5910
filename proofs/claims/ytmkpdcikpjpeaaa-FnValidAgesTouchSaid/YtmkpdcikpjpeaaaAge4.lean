/- TouchConn of the reference; EndedConns of program and reference. -/
import Derived.Test.YtmkpdcikpjpeaaaAge3
namespace Go.Proofs.Ytmkpdcikpjpeaaa
open Go.ChangeShapes Go.WideShapes Go.ChangeAt Go.RowKit
set_option linter.unusedVariables false

set_option maxHeartbeats 400000 in
theorem specTouchConn_calls (ao : Option Addr) (n cap : Nat) (L : Nat → Ag) (conn now : Int) (w : World) (h : RdA w ao n cap L) :
    Calls Try.prog 28 #[.slice ao n cap, .int .i64 conn, .int .i64 now] w (TouchR w L n conn now) := by
  have hlen := h.len
  have V := specvalidAges_calls ao n cap L w h
  rcases chain3 (vA L n) (inB 0 ((n : Int) - 1) conn) (inB 0 1000 now) with h1 | ⟨h1, h2⟩ | ⟨h1, h2, h3⟩ | ⟨h1, h2, h3⟩
  case inr.inr.inr =>
    have hok : touchOk L n conn now = true := by simp [touchOk, h1, h2, h3]
    obtain ⟨g1, g2⟩ := inB_yes h2
    obtain ⟨k, rfl⟩ := Int.eq_ofNat_of_zero_le g1
    have hkn : k < n := by omega
    have hn6 := (vA_facts h1).1
    have HK := Lib.hid hok
    rw [h1] at V
    clear h1 hok
    go_enter Try.func28, Try.ntmps28
    go_wp2_with first | (go_at_call 47; refine (V).mono ?_; rintro e w' ⟨rfl, hb⟩) | (go_at_call 50; refine (inRange_calls _ _ _ _).mono ?_; rintro e w' ⟨rfl, rfl⟩) | (at_builtin; refine appAll Try.underlying23 infoAge rfl (by decide) (by decide) (World.ownsRow_lit w' #[] 0 (Nat.le_refl _) (Nat.zero_le _) rfl) (Rd.below (h.below hb) ((Below.refl _ _).alloc (Nat.le_refl _) _)) (by omega) (by simp) (fun i j _ _ => by unfold acell; split <;> rfl) _ _ rfl rfl rfl rfl ?_)
    intro v1 w2 O2 G2
    have hb2 : Below w'.heap.size w' w2 := ((Below.refl _ _).alloc (Nat.le_refl _) _).grown G2 (by simp) (fun g hg => by simp [Value.ownBlock] at hg; omega)
    rw [rowsA_rows] at O2
    try simp only [List.nil_append, Nat.zero_add] at O2
    have B2 := hb.trans (hb2.mono hb.size)
    obtain ⟨g, c, rfl⟩ := own_form O2 (by omega)
    have hlt := (O2.lt g rfl)
    have hcaps := own_caps O2
    have hcell := O2.cellAt (k * 2 + 1) (by omega)
    rw [show (rowsA L n)[k * 2 + 1]? = some (.int .i64 (L k).used) from flatR_get _ 2 (fun _ => aenc_len _) n k 1 hkn (by omega)] at hcell
    have hfz := O2.frozenAt (k * 2 + 1)
    have i0 : (k : Int) < (n : Int) := by omega
    clear G2
    by_cases hmx : (L k).used < now
    · have O3 := (O2.stored (k * 2 + 1) (.int .i64 now)).1
      rw [rowsA_set1 L n k hkn, show now = max (L k).used now by omega, touch_rows, ← show now = max (L k).used now by omega] at O3
      have H3 := Lib.hid (World.ownsRow.mono O3 hb.size)
      clear O3 O2
      go_wp2
      go_returns
      exact .inr ⟨HK.out, _, _, _, rfl, hcaps.1, hcaps.2, fun h => by simp at h, H3.out, Below.setCell B2 (by have := hb.size; show _ ≤ g; omega) _⟩
    · have O3 := (O2.stored (k * 2 + 1) (.int .i64 (L k).used)).1
      rw [rowsA_set1 L n k hkn, show rowsA (fun i => if i = k then ⟨(L k).born, (L k).used⟩ else L i) n = rowsA (fun i => if i = k then ⟨(L k).born, max (L k).used now⟩ else L i) n by rw [show max (L k).used now = (L k).used by omega], touch_rows] at O3
      have H3 := Lib.hid (World.ownsRow.mono O3 hb.size)
      clear O3 O2
      go_wp2
      go_returns
      exact .inr ⟨HK.out, _, _, _, rfl, hcaps.1, hcaps.2, fun h => by simp at h, H3.out, Below.setCell B2 (by have := hb.size; show _ ≤ g; omega) _⟩
  all_goals
    have HK := Lib.hid (show touchOk L n conn now = false by simp [touchOk, *])
    rw [h1] at V
    go_enter Try.func28, Try.ntmps28
    go_wp2_with first | (go_at_call 47; refine (V).mono ?_; rintro e w' ⟨rfl, hb⟩) | (go_at_call 50; refine (inRange_calls _ _ _ _).mono ?_; rintro e w' ⟨rfl, rfl⟩)
    go_returns
    exact .inl ⟨HK.out, rfl, hb⟩

theorem own_slice {w : World} {base : Nat} {e : TypeId} {s : Nat} {v : Value} {n : Nat} {xs : List Value} (h : w.ownsRow base e s v n xs) : ∃ a c, v = .slice a n c := by
  rcases h.2 with ⟨h1, h2⟩ | ⟨g, c, _, h1, _⟩
  · exact ⟨none, 0, by rw [h1, h2]⟩
  · exact ⟨_, _, h1⟩
/-- Integers in new memory; the capacity told may be less than the memory's. -/
def IntsC (w : World) (n : Nat) (zs : List Int) (e : Ending) (w' : World) : Prop :=
  zs.length = n ∧ ∃ a c c', e = .returned (.slice a n c) ∧ n ≤ c ∧ c ≤ maxLen ∧ (a = none → c = 0) ∧ w'.ownsRow w.heap.size 3 1 (.slice a n c') n (zs.map (Value.int .i64)) ∧ Below w.heap.size w w'
def endedN (L : Nat → Ag) (n : Nat) (now life rest : Int) : Nat := (endedConns L n now life rest).length
theorem ended_no {L : Nat → Ag} {n : Nat} {now life rest : Int} (h : (vA L n && inB 0 1000 now && inB 1 1000 life && inB 1 1000 rest) = false) : endedConns L n now life rest = [] := by simp [endedConns, h]
theorem ended_yes {L : Nat → Ag} {n : Nat} {now life rest : Int} (h : (vA L n && inB 0 1000 now && inB 1 1000 life && inB 1 1000 rest) = true) : endedConns L n now life rest = endedL L now life rest n := by simp [endedConns, h]
theorem endedL_yes {L : Nat → Ag} {now life rest : Int} {k : Nat} (h : endA (L k) k life rest ≤ now) : endedL L now life rest (k + 1) = endedL L now life rest k ++ [(k : Int)] := by simp [endedL, h]
theorem endedL_no {L : Nat → Ag} {now life rest : Int} {k : Nat} (h : ¬ endA (L k) k life rest ≤ now) : endedL L now life rest (k + 1) = endedL L now life rest k := by simp [endedL, h]

set_option maxHeartbeats 800000 in
theorem implEndedConns_calls (ao : Option Addr) (n cap : Nat) (L : Nat → Ag) (now life rest : Int) (w : World) (h : RdA w ao n cap L) :
    Calls Try.prog 30 #[.slice ao n cap, .int .i64 now, .int .i64 life, .int .i64 rest] w (IntsC w (endedN L n now life rest) (endedConns L n now life rest)) := by
  have hlen := h.len
  have V := implValidAges_calls ao n cap L w h
  rcases chain4 (vA L n) (inB 0 1000 now) (inB 1 1000 life) (inB 1 1000 rest) with h1 | ⟨h1, h2⟩ | ⟨h1, h2, h3⟩ | ⟨h1, h2, h3, h4⟩ | ⟨h1, h2, h3, h4⟩
  case inr.inr.inr.inr =>
    have e1 : endedConns L n now life rest = endedL L now life rest n := ended_yes (by simp [h1, h2, h3, h4])
    have e2 : endedN L n now life rest = (endedL L now life rest n).length := by rw [endedN, e1]
    rw [e1, e2]
    have hargs : argsA L n life rest = true := by simp [argsA, h1, h3, h4]
    rw [h1] at V
    have HA := Lib.hid hargs
    obtain ⟨_, hl1, hl2, hr1, hr2⟩ := argsA_yes hargs
    have hvf := vA_facts h1
    have hn6 := hvf.1
    have HV := Lib.hid hvf.2
    clear e1 e2 h1 hargs hvf
    go_enter Try.func30, Try.ntmps30
    go_wp2_with first | (go_at_call 18; refine (V).mono ?_; rintro e w' ⟨rfl, hb⟩) | (go_at_call 45; refine (isTime_calls _ _).mono ?_; rintro e w' ⟨rfl, rfl⟩) | (go_at_call 52; refine (isSpan_calls _ _).mono ?_; rintro e w' ⟨rfl, rfl⟩)
    go_loopw [9, 32] (fun o i wr => ∃ k : Nat, k ≤ n ∧ i = .int .i64 k ∧ wr.ownsRow w.heap.size 3 1 o (endedL L now life rest k).length ((endedL L now life rest k).map (Value.int .i64)) ∧ Below w.heap.size w wr) (fun _ i _ => n - (intOf i).toNat)
    case atStart => exact ⟨0, Nat.zero_le _, rfl, World.ownsRow_nil _ _ _ _, hb⟩
    case round =>
      obtain ⟨k, hk, rfl, hO, hB⟩ := hrel
      by_cases hlt : k < n
      · obtain ⟨b, off, rfl, hbb, hc⟩ := h.pos (by omega)
        obtain ⟨q0, q1⟩ := hc k hlt
        have c0 := (hB.cell (p := ⟨b, off + k * 2, none⟩) hbb).trans q0
        have c1 := (hB.cell (p := ⟨b, off + k * 2 + 1, none⟩) hbb).trans q1
        have i0 : (k : Int) < (n : Int) := by omega
        have hv := HV.out k hlt
        have hef := endA_facts HA.out k hlt
        have hel := endedL_len L now life rest k
        have hz := hB.size
        clear hc q0 q1
        go_wp2_with fail
        refine (end_calls (L k) k life rest _ (by omega) hl1 hl2 hr1 hr2 (by omega) (by omega) (by omega) (by omega)).mono ?_
        rintro e w2 ⟨rfl, hb2⟩
        have B2 : Below w.heap.size w w2 := Below.trans (by go_grown) (hb2.mono (by simp; omega))
        have hz2 := B2.size
        have O2 : w2.ownsRow w.heap.size 3 1 _ _ _ := own_below (World.ownsRow.alloc hO _) hb2
        by_cases hle : endA (L k) k life rest ≤ now
        · have HS := Lib.hid (endedL_yes hle)
          clear hO
          go_wp2_with (at_builtin; refine app1 Try.underlying40 infoInt rfl (by decide) (by decide) O2 (by omega) (by omega) rfl (by simp [Value.oneCell']) _ _ rfl rfl rfl rfl ?_)
          intro v' w3 O3 G3
          have O3' : w3.ownsRow w.heap.size 3 1 v' (endedL L now life rest (k + 1)).length ((endedL L now life rest (k + 1)).map (Value.int .i64)) := by rw [HS.out]; simpa using O3
          have B3 := B2.grown G3 hz2 (fun g hg => (O2.lt g hg).1)
          have H3 := Lib.hid O3'
          clear O3 O3' O2 G3
          go_wp2
          go_roundw
          case rel => exact ⟨k + 1, by omega, by go_num, H3.out, B3⟩
          case measure => simp [intOf]; omega
        · have HS := Lib.hid (endedL_no hle)
          have H3 := Lib.hid O2
          clear hO O2
          go_wp2
          go_roundw
          case rel => exact ⟨k + 1, by omega, by go_num, by rw [HS.out]; exact H3.out, B2⟩
          case measure => simp [intOf]; omega
      · obtain rfl : k = n := by omega
        obtain ⟨a, c, rfl⟩ := own_slice hO
        have hcc := own_caps hO
        have HO := Lib.hid hO
        have hno : a = none → c = 0 := fun e => by subst e; exact (own_none hO).2
        have had : ∀ x, a = some x → ∃ b off, x = ⟨b, off, none⟩ := fun x hx => by obtain ⟨g, hg⟩ := own_addr hO x hx; exact ⟨g, 0, hg⟩
        have hno' : a = none → (endedL L now life rest k).length = 0 := fun e => by subst e; exact (own_none hO).1
        have HN := Lib.hid hno'
        clear hO hno'
        generalize hN : (endedL L now life rest k).length = N at *
        go_wp2_with fail
        refine (clipI_calls a N c wr hcc.1 hcc.2 hno had).mono ?_
        rintro e w2 ⟨rfl, rfl⟩
        clear hno had
        go_wp2
        go_ret
        exact ⟨hN, a, N, c, rfl, Nat.le_refl _, by omega, HN.out, HO.out, hB⟩
  all_goals
    have e1 : endedConns L n now life rest = [] := ended_no (by simp [*])
    have e2 : endedN L n now life rest = 0 := by rw [endedN, e1]; rfl
    rw [e1, e2]
    rw [h1] at V
    clear e1 e2
    go_enter Try.func30, Try.ntmps30
    go_wp2_with first | (go_at_call 18; refine (V).mono ?_; rintro e w' ⟨rfl, hb⟩) | (go_at_call 45; refine (isTime_calls _ _).mono ?_; rintro e w' ⟨rfl, rfl⟩) | (go_at_call 52; refine (isSpan_calls _ _).mono ?_; rintro e w' ⟨rfl, rfl⟩)
    go_ret
    exact ⟨rfl, none, 0, 0, rfl, Nat.le_refl _, by unfold maxLen; omega, fun _ => rfl, World.ownsRow_nil _ _ _ _, hb⟩

set_option maxHeartbeats 800000 in
theorem specEndedConns_calls (ao : Option Addr) (n cap : Nat) (L : Nat → Ag) (now life rest : Int) (w : World) (h : RdA w ao n cap L) :
    Calls Try.prog 35 #[.slice ao n cap, .int .i64 now, .int .i64 life, .int .i64 rest] w (IntsC w (endedN L n now life rest) (endedConns L n now life rest)) := by
  have hlen := h.len
  have B0 : Below w.heap.size w (w.alloc (.cells #[] 3)) := (Below.refl _ _).alloc (Nat.le_refl _) _
  have V := specvalidAges_calls ao n cap L _ (h.below B0)
  rcases chain4 (vA L n) (inB 0 1000 now) (inB 1 1000 life) (inB 1 1000 rest) with h1 | ⟨h1, h2⟩ | ⟨h1, h2, h3⟩ | ⟨h1, h2, h3, h4⟩ | ⟨h1, h2, h3, h4⟩
  case inr.inr.inr.inr =>
    have e1 : endedConns L n now life rest = endedL L now life rest n := ended_yes (by simp [h1, h2, h3, h4])
    have e2 : endedN L n now life rest = (endedL L now life rest n).length := by rw [endedN, e1]
    rw [e1, e2]
    have hargs : argsA L n life rest = true := by simp [argsA, h1, h3, h4]
    rw [h1] at V
    have HA := Lib.hid hargs
    obtain ⟨_, hl1, hl2, hr1, hr2⟩ := argsA_yes hargs
    obtain ⟨hnw1, hnw2⟩ := inB_yes h2
    have hvf := vA_facts h1
    have hn6 := hvf.1
    have HV := Lib.hid hvf.2
    have O0 : (w.alloc (.cells #[] 3)).ownsRow w.heap.size 3 1 (.slice (some ⟨w.heap.size, 0, none⟩) 0 0) 0 ((endedL L now life rest 0).map (Value.int .i64)) := World.ownsRow_lit w #[] 0 (Nat.le_refl _) (Nat.zero_le _) rfl
    clear e1 e2 h1 hargs hvf
    go_enter Try.func35, Try.ntmps35
    go_wp2_with first | (go_at_call 47; refine (V).mono ?_; rintro e w' ⟨rfl, hb⟩) | (go_at_call 50; refine (inRange_calls _ _ _ _).mono ?_; rintro e w' ⟨rfl, rfl⟩)
    have hb' : Below w.heap.size w w' := B0.trans (hb.mono B0.size)
    have O1 := own_below O0 hb
    clear O0
    go_loopw [9, 10] (fun o i wr => ∃ k : Nat, k ≤ n ∧ i = .int .i64 k ∧ wr.ownsRow w.heap.size 3 1 o (endedL L now life rest k).length ((endedL L now life rest k).map (Value.int .i64)) ∧ Below w.heap.size w wr) (fun _ i _ => n - (intOf i).toNat)
    case atStart => exact ⟨0, Nat.zero_le _, rfl, O1, hb'⟩
    case round =>
      obtain ⟨k, hk, rfl, hO, hB⟩ := hrel
      by_cases hlt : k < n
      · obtain ⟨b, off, rfl, hbb, hc⟩ := h.pos (by omega)
        obtain ⟨q0, q1⟩ := hc k hlt
        have c0 := (hB.cell (p := ⟨b, off + k * 2, none⟩) hbb).trans q0
        have c1 := (hB.cell (p := ⟨b, off + k * 2 + 1, none⟩) hbb).trans q1
        have i0 : (k : Int) < (n : Int) := by omega
        have hv := HV.out k hlt
        have hel := endedL_len L now life rest k
        have hz := hB.size
        have hlf := lifeOf_facts (c := k) (life := life) (by omega) hl1 hl2
        have w1 : IntKind.i64.wrap (now - (L k).born) = now - (L k).born := IntWalk.i64_in _ (by omega)
        have w2 : IntKind.i64.wrap (now - (L k).used) = now - (L k).used := IntWalk.i64_in _ (by omega)
        have HM := Lib.hid (show endA (L k) k life rest = min ((L k).born + lifeOf k life) ((L k).used + rest) from rfl)
        clear hc q0 q1
        rcases chain2 (!decide (lifeOf k life ≤ now - (L k).born)) (!decide (rest ≤ now - (L k).used)) with g1 | ⟨g1, g2⟩ | ⟨g1, g2⟩
        case inr.inr =>
          have d1 : decide (lifeOf k life ≤ now - (L k).born) = false := by simpa using g1
          have d2 : decide (rest ≤ now - (L k).used) = false := by simpa using g2
          have hno : ¬ endA (L k) k life rest ≤ now := by have := HM.out; simp at d1 d2; omega
          have HS := Lib.hid (endedL_no hno)
          have H3 := Lib.hid hO
          clear hO hno g1 g2
          go_wp2
          go_quiet ((go_at_call 51; exact quiet_left (speclifeOf_calls k life _ (by omega) hl1 hl2)))
          go_wp2
          go_roundw
          case rel => exact ⟨k + 1, by omega, by go_num, by rw [HS.out]; exact own_below H3.out (below_drewN (Below.refl _ _) _), below_drewN hB _⟩
          case measure => simp [intOf]; omega
        case inl =>
          have d1 : decide (lifeOf k life ≤ now - (L k).born) = true := by simpa using g1
          have hyes : endA (L k) k life rest ≤ now := by have := HM.out; simp at d1; omega
          have HS := Lib.hid (endedL_yes hyes)
          clear hyes g1
          go_wp2
          go_quiet ((go_at_call 51; exact quiet_left (speclifeOf_calls k life _ (by omega) hl1 hl2)))
          go_wp2_with (at_builtin; refine app1 Try.underlying40 infoInt rfl (by decide) (by decide) (own_below hO (below_drewN (Below.refl _ _) _)) (by omega) (by simp; omega) rfl (by simp [Value.oneCell']) _ _ rfl rfl rfl rfl ?_)
          intro v' w3 O3 G3
          have O3' : w3.ownsRow w.heap.size 3 1 v' (endedL L now life rest (k + 1)).length ((endedL L now life rest (k + 1)).map (Value.int .i64)) := by rw [HS.out]; simpa using O3
          have B3 := (below_drewN hB _).grown G3 hz (fun g hg => (hO.lt g hg).1)
          have H3 := Lib.hid O3'
          clear O3 O3' hO G3
          go_wp2
          go_roundw
          case rel => exact ⟨k + 1, by omega, by go_num, H3.out, B3⟩
          case measure => simp [intOf]; omega
        case inr.inl =>
          have d1 : decide (lifeOf k life ≤ now - (L k).born) = false := by simpa using g1
          have d2 : decide (rest ≤ now - (L k).used) = true := by simpa using g2
          have hyes : endA (L k) k life rest ≤ now := by have := HM.out; simp at d2; omega
          have HS := Lib.hid (endedL_yes hyes)
          clear hyes g1 g2
          go_wp2
          go_quiet ((go_at_call 51; exact quiet_left (speclifeOf_calls k life _ (by omega) hl1 hl2)))
          go_wp2_with (at_builtin; refine app1 Try.underlying40 infoInt rfl (by decide) (by decide) (own_below hO (below_drewN (Below.refl _ _) _)) (by omega) (by simp; omega) rfl (by simp [Value.oneCell']) _ _ rfl rfl rfl rfl ?_)
          intro v' w3 O3 G3
          have O3' : w3.ownsRow w.heap.size 3 1 v' (endedL L now life rest (k + 1)).length ((endedL L now life rest (k + 1)).map (Value.int .i64)) := by rw [HS.out]; simpa using O3
          have B3 := (below_drewN hB _).grown G3 hz (fun g hg => (hO.lt g hg).1)
          have H3 := Lib.hid O3'
          clear O3 O3' hO G3
          go_wp2
          go_roundw
          case rel => exact ⟨k + 1, by omega, by go_num, H3.out, B3⟩
          case measure => simp [intOf]; omega
      · obtain rfl : k = n := by omega
        obtain ⟨a, c, rfl⟩ := own_slice hO
        have hcc := own_caps hO
        have HO := Lib.hid hO
        have HN := Lib.hid (show a = none → c = 0 from fun e => by subst e; exact (own_none hO).2)
        clear hO
        go_wp2
        go_ret
        exact ⟨rfl, a, c, c, rfl, hcc.1, hcc.2, HN.out, HO.out, hB⟩
  all_goals
    have e1 : endedConns L n now life rest = [] := ended_no (by simp [*])
    have e2 : endedN L n now life rest = 0 := by rw [endedN, e1]; rfl
    rw [e1, e2]
    rw [h1] at V
    clear e1 e2
    go_enter Try.func35, Try.ntmps35
    go_wp2_with first | (go_at_call 47; refine (V).mono ?_; rintro e w' ⟨rfl, hb⟩) | (go_at_call 50; refine (inRange_calls _ _ _ _).mono ?_; rintro e w' ⟨rfl, rfl⟩)
    go_ret
    exact ⟨rfl, none, 0, 0, rfl, Nat.le_refl _, by unfold maxLen; omega, fun _ => rfl, World.ownsRow_nil _ _ _ _, B0.trans (hb.mono B0.size)⟩
end Go.Proofs.Ytmkpdcikpjpeaaa
