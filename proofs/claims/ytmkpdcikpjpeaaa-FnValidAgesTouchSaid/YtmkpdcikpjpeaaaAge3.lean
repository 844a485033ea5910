/- EndedConns and TouchConn of program and reference. -/
import Derived.Test.YtmkpdcikpjpeaaaAge2
import Derived.Test.YtmkpdcikpjpeaaaInts
import Derived.Laws.AppendOwnNone
import Derived.WalkSpells
import Derived.Deep.Onto
namespace Go.Proofs.Ytmkpdcikpjpeaaa
open Go.ChangeShapes Go.WideShapes Go.ChangeAt Go.RowKit
set_option linter.unusedVariables false

theorem Rd.recap {w : World} {s : Nat} {ao : Option Addr} {n cap cap' : Nat} {f : Nat → Nat → Value} (h : Rd w s ao n cap f) (h1 : n ≤ cap') (h2 : cap' ≤ maxLen) (h3 : ao = none → cap' = 0) : Rd w s ao n cap' f := ⟨h1, h2, h3, h.2.2.2⟩
theorem own_none {w : World} {base : Nat} {e : TypeId} {s n cap : Nat} {xs : List Value} (h : w.ownsRow base e s (.slice none n cap) n xs) : n = 0 ∧ cap = 0 := by
  rcases h.2 with ⟨hv, h0⟩ | ⟨g, c, _, hv, _⟩
  · injection hv with _ h2 h3; exact ⟨h2, h3⟩
  · injection hv with h1; simp at h1
theorem own_addr {w : World} {base : Nat} {e : TypeId} {s n cap : Nat} {ao : Option Addr} {xs : List Value} (h : w.ownsRow base e s (.slice ao n cap) n xs) : ∀ x, ao = some x → ∃ g, x = ⟨g, 0, none⟩ := by
  intro x hx
  subst hx
  rcases h.2 with ⟨hv, _⟩ | ⟨g, c, _, hv, _⟩
  · injection hv with h1; simp at h1
  · injection hv with h1 _ _; injection h1 with h1; exact ⟨g, h1⟩
theorem own_caps {w : World} {base : Nat} {e : TypeId} {s n cap : Nat} {ao : Option Addr} {xs : List Value} (h : w.ownsRow base e s (.slice ao n cap) n xs) : n ≤ cap ∧ cap ≤ maxLen := by
  rcases h.2 with ⟨hv, h0⟩ | ⟨g, c, _, hv, _, _, h1, h2, _⟩
  · injection hv with _ h2 h3; subst h2 h3; exact ⟨Nat.le_refl _, by unfold maxLen; omega⟩
  · injection hv with _ _ h3; subst h3; exact ⟨h1, h2⟩

theorem clipA_calls (ao : Option Addr) (n cap : Nat) (w : World) (h1 : n ≤ cap) (h2 : cap ≤ maxLen) (hz : ao = none → cap = 0) (hs : ∀ x, ao = some x → ∃ b off, x = ⟨b, off, none⟩) : Calls Try.prog 62 #[.slice ao n cap] w fun e w' => e = .returned (.slice ao n n) ∧ w = w' := by
  unfold maxLen at h2
  cases ao with
  | none =>
    have hc := hz rfl
    subst hc
    have hn0 : n = 0 := by omega
    subst hn0
    go_enter Try.func62, Try.ntmps62
    go_wp2
    go_ret
    exact ⟨rfl, rfl⟩
  | some ad =>
    obtain ⟨b, off, rfl⟩ := hs ad rfl
    have i1 : (n : Int) ≤ (cap : Int) := by omega
    clear hz hs
    go_enter Try.func62, Try.ntmps62
    go_wp2
    go_ret
    exact ⟨rfl, rfl⟩
theorem clipI_calls (ao : Option Addr) (n cap : Nat) (w : World) (h1 : n ≤ cap) (h2 : cap ≤ maxLen) (hz : ao = none → cap = 0) (hs : ∀ x, ao = some x → ∃ b off, x = ⟨b, off, none⟩) : Calls Try.prog 58 #[.slice ao n cap] w fun e w' => e = .returned (.slice ao n n) ∧ w = w' := by
  unfold maxLen at h2
  cases ao with
  | none =>
    have hc := hz rfl
    subst hc
    have hn0 : n = 0 := by omega
    subst hn0
    go_enter Try.func58, Try.ntmps58
    go_wp2
    go_ret
    exact ⟨rfl, rfl⟩
  | some ad =>
    obtain ⟨b, off, rfl⟩ := hs ad rfl
    have i1 : (n : Int) ≤ (cap : Int) := by omega
    clear hz hs
    go_enter Try.func58, Try.ntmps58
    go_wp2
    go_ret
    exact ⟨rfl, rfl⟩
theorem cloneA_calls (ao : Option Addr) (n cap : Nat) (L : Nat → Ag) (w : World) (h : RdA w ao n cap L) (hn : n ≤ 1048576) : Calls Try.prog 63 #[.slice ao n cap] w (OwnA w n L) := by
  have q : ∀ (w : World) (a : Option Addr) (n c n' c' : Nat), (binOp .eql 23 (.slice a n c) (.slice none n' c')).run Try.prog w = .ok (.bool a.isNone) w := fun w a n c n' c' => Lib.run_eql_slice_nil w _ _ a n c n' c' Try.underlying23
  cases ao with
  | none =>
    have hc := h.2.2.1 rfl
    subst hc
    have hn0 : n = 0 := by have := h.1; omega
    subst hn0
    go_enter Try.func63, Try.ntmps63
    go_wp2
    go_ret
    exact ⟨_, rfl, _, _, rfl, World.ownsRow_nil _ _ _ _, Below.refl _ _⟩
  | some ad =>
    go_enter Try.func63, Try.ntmps63
    go_wp2_with (at_builtin; refine appAll Try.underlying23 infoAge rfl (by decide) (by decide) (World.ownsRow_lit w #[] 0 (Nat.le_refl _) (Nat.zero_le _) rfl) (Rd.below h ((Below.refl _ _).alloc (Nat.le_refl _) _)) (by omega) (by simp) (fun i j _ _ => by unfold acell; split <;> rfl) _ _ rfl rfl rfl rfl ?_)
    intro v1 w2 O1 G1
    have B2 : Below w.heap.size w w2 := ((Below.refl _ _).alloc (Nat.le_refl _) _).grown G1 (by simp) (fun g hg => by simp [Value.ownBlock] at hg; omega)
    rw [rowsA_rows] at O1
    try simp only [List.nil_append, Nat.zero_add] at O1
    obtain ⟨a, c, rfl⟩ : ∃ a c, v1 = .slice a n c := by
      rcases O1.2 with ⟨h1, h2⟩ | ⟨g, c, _, h1, _⟩
      · exact ⟨none, 0, by rw [h1, h2]⟩
      · exact ⟨_, _, h1⟩
    have HO := Lib.hid O1
    clear O1 G1
    go_wp2
    go_ret
    exact ⟨_, rfl, _, _, rfl, HO.out, B2⟩
/-- New memory, without room behind it. -/
def ClipdA (w : World) (n : Nat) (L : Nat → Ag) (e : Ending) (w' : World) : Prop :=
  ∃ a c, e = .returned (.slice a n n) ∧ w'.ownsRow w.heap.size 28 2 (.slice a n c) n (rowsA L n) ∧ Below w.heap.size w w'
theorem implcloneA_calls (ao : Option Addr) (n cap : Nat) (L : Nat → Ag) (w : World) (h : RdA w ao n cap L) (hn : n ≤ 1048576) : Calls Try.prog 57 #[.slice ao n cap] w (ClipdA w n L) := by
  go_enter Try.func57, Try.ntmps57
  go_wp2_with fail
  refine (cloneA_calls ao n cap L w h hn).mono ?_
  rintro e w1 ⟨v, rfl, a, c, rfl, O1, B1⟩
  go_wp2_with fail
  refine (clipA_calls a n c w1 (own_caps O1).1 (own_caps O1).2 (fun e => by subst e; exact (own_none O1).2) (fun x hx => by obtain ⟨g, hg⟩ := own_addr O1 x hx; exact ⟨g, 0, hg⟩)).mono ?_
  rintro e w2 ⟨rfl, rfl⟩
  have HO := Lib.hid O1
  clear O1
  go_wp2
  go_ret
  exact ⟨a, c, rfl, HO.out, B1⟩

theorem rowsA_set1 (L : Nat → Ag) (n k : Nat) (hk : k < n) (u : Int) : (rowsA L n).set (k * 2 + 1) (.int .i64 u) = rowsA (fun i => if i = k then ⟨(L k).born, u⟩ else L i) n := by
  have h := rowsA_set L n k hk ⟨(L k).born, u⟩
  have e : (rowsA L n).set (k * 2) (.int .i64 (L k).born) = rowsA L n := by
    apply List.ext_getElem?
    intro p
    rw [List.getElem?_set]
    by_cases hp : k * 2 = p
    · subst hp
      have hl : (rowsA L n).length = n * 2 := flatR_len _ 2 (fun _ => aenc_len _) n
      rw [if_pos rfl, if_pos (by omega)]
      exact (flatR_get _ 2 (fun _ => aenc_len _) n k 0 hk (by omega)).symm
    · rw [if_neg hp]
  rw [e] at h
  exact h
theorem touch_rows (L : Nat → Ag) (n k : Nat) (now : Int) : rowsA (fun i => if i = k then ⟨(L k).born, max (L k).used now⟩ else L i) n = rowsA (touchA L (k : Int) now) n := by
  refine rowsA_congr fun i hi => ?_
  unfold touchA
  by_cases e : i = k
  · subst e; simp
  · rw [if_neg e, if_neg (by omega)]

/-- What TouchConn answers. -/
def TouchR (w : World) (L : Nat → Ag) (n : Nat) (conn now : Int) (e : Ending) (w' : World) : Prop :=
  (touchOk L n conn now = false ∧ e = .returned (.tuple #[.slice none 0 0, .bool false]) ∧ Below w.heap.size w w') ∨
  (touchOk L n conn now = true ∧ ∃ a c c', e = .returned (.tuple #[.slice a n c, .bool true]) ∧ n ≤ c ∧ c ≤ maxLen ∧ (a = none → c = 0) ∧ w'.ownsRow w.heap.size 28 2 (.slice a n c') n (rowsA (touchA L conn now) n) ∧ Below w.heap.size w w')

set_option maxHeartbeats 400000 in
theorem implTouchConn_calls (ao : Option Addr) (n cap : Nat) (L : Nat → Ag) (conn now : Int) (w : World) (h : RdA w ao n cap L) :
    Calls Try.prog 27 #[.slice ao n cap, .int .i64 conn, .int .i64 now] w (TouchR w L n conn now) := by
  have hlen := h.len
  have V := implValidAges_calls ao n cap L w h
  rcases chain3 (vA L n) (inB 0 ((n : Int) - 1) conn) (inB 0 1000 now) with h1 | ⟨h1, h2⟩ | ⟨h1, h2, h3⟩ | ⟨h1, h2, h3⟩
  case inr.inr.inr =>
    have hok : touchOk L n conn now = true := by simp [touchOk, h1, h2, h3]
    obtain ⟨g1, g2⟩ := inB_yes h2
    obtain ⟨k, rfl⟩ := Int.eq_ofNat_of_zero_le g1
    have hkn : k < n := by omega
    have hn6 := (vA_facts h1).1
    have HK := Lib.hid hok
    rw [h1] at V
    clear h1 hok
    go_enter Try.func27, Try.ntmps27
    go_wp2_with first | (go_at_call 18; refine (V).mono ?_; rintro e w' ⟨rfl, hb⟩) | (go_at_call 46; refine (in_calls _ _ _ _).mono ?_; rintro e w' ⟨rfl, rfl⟩) | (go_at_call 45; refine (isTime_calls _ _).mono ?_; rintro e w' ⟨rfl, rfl⟩)
    refine (implcloneA_calls ao n cap L w' (h.below hb) (by omega)).mono ?_
    rintro e w2 ⟨a, c, rfl, O2, hb2⟩
    have B2 := hb.trans (hb2.mono hb.size)
    obtain ⟨g, c2, hf⟩ := own_form O2 (by omega)
    injection hf with e1 e2 e3
    subst e1 e3
    have hlt := (O2.lt g rfl)
    have hcaps := own_caps O2
    have hcell := O2.cellAt (k * 2 + 1) (by omega)
    rw [show (rowsA L n)[k * 2 + 1]? = some (.int .i64 (L k).used) from flatR_get _ 2 (fun _ => aenc_len _) n k 1 hkn (by omega)] at hcell
    have hfz := O2.frozenAt (k * 2 + 1)
    have i0 : (k : Int) < (n : Int) := by omega
    by_cases hmx : (L k).used < now
    · have O3 := (O2.stored (k * 2 + 1) (.int .i64 now)).1
      rw [rowsA_set1 L n k hkn, show now = max (L k).used now by omega, touch_rows, ← show now = max (L k).used now by omega] at O3
      have H3 := Lib.hid (World.ownsRow.mono O3 hb.size)
      clear O3 O2
      go_wp2
      go_returns
      exact .inr ⟨HK.out, _, _, _, rfl, Nat.le_refl _, by unfold maxLen; omega, fun h => by simp at h, H3.out, Below.setCell B2 (by have := hb.size; show _ ≤ g; omega) _⟩
    · have O3 := (O2.stored (k * 2 + 1) (.int .i64 (L k).used)).1
      rw [rowsA_set1 L n k hkn, show rowsA (fun i => if i = k then ⟨(L k).born, (L k).used⟩ else L i) n = rowsA (fun i => if i = k then ⟨(L k).born, max (L k).used now⟩ else L i) n by rw [show max (L k).used now = (L k).used by omega], touch_rows] at O3
      have H3 := Lib.hid (World.ownsRow.mono O3 hb.size)
      clear O3 O2
      go_wp2
      go_returns
      exact .inr ⟨HK.out, _, _, _, rfl, Nat.le_refl _, by unfold maxLen; omega, fun h => by simp at h, H3.out, Below.setCell B2 (by have := hb.size; show _ ≤ g; omega) _⟩
  all_goals
    have HK := Lib.hid (show touchOk L n conn now = false by simp [touchOk, *])
    rw [h1] at V
    go_enter Try.func27, Try.ntmps27
    go_wp2_with first | (go_at_call 18; refine (V).mono ?_; rintro e w' ⟨rfl, hb⟩) | (go_at_call 46; refine (in_calls _ _ _ _).mono ?_; rintro e w' ⟨rfl, rfl⟩) | (go_at_call 45; refine (isTime_calls _ _).mono ?_; rintro e w' ⟨rfl, rfl⟩)
    go_returns
    exact .inl ⟨HK.out, rfl, hb⟩
end Go.Proofs.Ytmkpdcikpjpeaaa
