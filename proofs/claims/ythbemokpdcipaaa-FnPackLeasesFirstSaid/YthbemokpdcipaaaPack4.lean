/- The clone of leases; the stable sort of the program's order. -/
import Derived.Test.YthbemokpdcipaaaPack3
import Derived.Test.YthbemokpdcipaaaPackSort
import Derived.RegionTactic
import Derived.BigRegion
namespace Go.Proofs.Ythbemokpdcipaaa
open Go.ChangeShapes Go.WideShapes Go.ChangeAt Go.RowKit
set_option linter.unusedVariables false

theorem clipL_calls (ao : Option Addr) (n cap : Nat) (w : World) (h1 : n ≤ cap) (h2 : cap ≤ maxLen) (hz : ao = none → cap = 0) (hs : ∀ x, ao = some x → ∃ b off, x = ⟨b, off, none⟩) : Calls Try.prog 63 #[.slice ao n cap] w fun e w' => e = .returned (.slice ao n n) ∧ w = w' := by
  unfold maxLen at h2
  cases ao with
  | none =>
    have hc := hz rfl
    subst hc
    have hn0 : n = 0 := by omega
    subst hn0
    go_enter Try.func63, Try.ntmps63
    go_wp2
    go_ret
    exact ⟨rfl, rfl⟩
  | some ad =>
    obtain ⟨b, off, rfl⟩ := hs ad rfl
    have i1 : (n : Int) ≤ (cap : Int) := by omega
    clear hz hs
    go_enter Try.func63, Try.ntmps63
    go_wp2
    go_ret
    exact ⟨rfl, rfl⟩
theorem cloneL_calls (ao : Option Addr) (n cap : Nat) (L : Nat → Lz) (w : World) (h : RdL w ao n cap L) (hn : n ≤ 1048576) : Calls Try.prog 64 #[.slice ao n cap] w (OwnL w n L) := by
  have q : ∀ (w : World) (a : Option Addr) (n c n' c' : Nat), (binOp .eql 23 (.slice a n c) (.slice none n' c')).run Try.prog w = .ok (.bool a.isNone) w := fun w a n c n' c' => Lib.run_eql_slice_nil w _ _ a n c n' c' Try.underlying23
  cases ao with
  | none =>
    have hc := h.2.2.1 rfl
    subst hc
    have hn0 : n = 0 := by have := h.1; omega
    subst hn0
    go_enter Try.func64, Try.ntmps64
    go_wp2
    go_ret
    exact ⟨_, rfl, _, _, rfl, World.ownsRow_nil _ _ _ _, Below.refl _ _⟩
  | some ad =>
    go_enter Try.func64, Try.ntmps64
    go_wp2_with (at_builtin; refine appAll Try.underlying23 infoLease rfl (by decide) (by decide) (World.ownsRow_lit w #[] 0 (Nat.le_refl _) (Nat.zero_le _) rfl) (Rd.below h ((Below.refl _ _).alloc (Nat.le_refl _) _)) (by omega) (by simp) (fun i j _ _ => by unfold lcell; split <;> rfl) _ _ rfl rfl rfl rfl ?_)
    intro v1 w2 O1 G1
    have B2 : Below w.heap.size w w2 := ((Below.refl _ _).alloc (Nat.le_refl _) _).grown G1 (by simp) (fun g hg => by simp [Value.ownBlock] at hg; omega)
    rw [rowsL_rows] at O1
    try simp only [List.nil_append, Nat.zero_add] at O1
    obtain ⟨a, c, rfl⟩ := own_slice O1
    have HO := Lib.hid O1
    clear O1 G1
    go_wp2
    go_ret
    exact ⟨_, rfl, _, _, rfl, HO.out, B2⟩
/-- New memory, without room behind it. -/
def ClipdL (w : World) (n : Nat) (L : Nat → Lz) (e : Ending) (w' : World) : Prop :=
  ∃ a c, e = .returned (.slice a n n) ∧ w'.ownsRow w.heap.size 29 4 (.slice a n c) n (rowsL L n) ∧ Below w.heap.size w w'
theorem implcloneL_calls (ao : Option Addr) (n cap : Nat) (L : Nat → Lz) (w : World) (h : RdL w ao n cap L) (hn : n ≤ 1048576) : Calls Try.prog 35 #[.slice ao n cap] w (ClipdL w n L) := by
  go_enter Try.func35, Try.ntmps35
  go_wp2_with fail
  refine (cloneL_calls ao n cap L w h hn).mono ?_
  rintro e w1 ⟨v, rfl, a, c, rfl, O1, B1⟩
  go_wp2_with fail
  refine (clipL_calls a n c w1 (own_caps O1).1 (own_caps O1).2 (fun e => by subst e; exact (own_none O1).2) (fun x hx => by obtain ⟨g, hg⟩ := own_addr O1 x hx; exact ⟨g, 0, hg⟩)).mono ?_
  rintro e w2 ⟨rfl, rfl⟩
  have HO := Lib.hid O1
  clear O1
  go_wp2
  go_ret
  exact ⟨a, c, rfl, HO.out, B1⟩

/-! ### The sort -/
theorem grown_same (w : World) (row : Option Nat) : w.grownBy w row := ⟨rfl, rfl, rfl, Nat.le_refl _, fun _ _ _ => rfl⟩
/-- What the sort keeps. -/
def SortI (w : World) (base g c n : Nat) (xs : List Nat) (wr : World) : Prop :=
  wr.ownsRow base 3 1 (.slice (some ⟨g, 0, none⟩) n c) n (natV xs) ∧ w.grownBy wr (some g)
theorem SortI.drewN {w : World} {base g c n : Nat} {xs : List Nat} {wr : World} (h : SortI w base g c n xs wr) (m : Nat) : SortI w base g c n xs (wr.drewN m) :=
  ⟨own_below h.1 (below_drewN (Below.refl _ _) m), grown_drewN h.2 m⟩
theorem SortI.swap {w : World} {base g c n : Nat} {xs : List Nat} {wr : World} (h : SortI w base g c n xs wr) (p q a b : Nat) :
    SortI w base g c n ((xs.set p a).set q b) (((wr.setCell ⟨g, p, none⟩ (.int .i64 (a : Int))).setCell ⟨g, q, none⟩ (.int .i64 (b : Int))).drew) := by
  have s1 := h.1.stored p (.int .i64 (a : Int))
  have s2 := s1.1.stored q (.int .i64 (b : Int))
  have o2 := s2.1
  rw [natV_set, natV_set] at o2
  exact ⟨own_below o2 (below_drewN (Below.refl _ _) 1), grown_drewN (grown_trans (grown_trans h.2 s1.2 (fun x hx => .inr hx)) s2.2 (fun x hx => .inr hx)) 1⟩
theorem SortI.cell {w : World} {base g c n : Nat} {xs : List Nat} {wr : World} (h : SortI w base g c n xs wr) {p i : Nat} (hp : p < n) (hx : xs[p]? = some i) : wr.cell? ⟨g, p, none⟩ = some (.int .i64 (i : Int)) := by
  rw [h.1.cellAt p (by omega)]; exact natV_get hx

set_option maxHeartbeats 1600000 in
theorem insSort_calls (gl : Nat) (ao : Option Addr) (n cap : Nat) (L : Nat → Lz) (w : World) (base g c : Nat) (hgl : w.cell? ⟨gl, 0, none⟩ = some (.slice ao n cap)) (h : RdL w ao n cap L) (hn : n ≤ 100) (h0 : 0 < n)
    (hO : w.ownsRow base 3 1 (.slice (some ⟨g, 0, none⟩) n c) n (natV (List.range n))) (hg1 : gl < base) (hg2 : ∀ b off x, ao = some ⟨b, off, x⟩ → b < base) :
    Calls Try.prog 72 #[.slice (some ⟨g, 0, none⟩) n c, .int .i64 0, .int .i64 n, .func (.func 37) #[] #[.pointer (some ⟨gl, 0, none⟩)]] w fun e w' => e = .returned (.tuple #[]) ∧ SortI w base g c n (ordL L n) w' := by
  have hbase := (hO.lt g rfl).1
  have hblk := World.block_lt_of_cell? w _ hgl
  have S0 : SortI w base g c n (arrO L n 1) w := by rw [arrO_one h0]; exact ⟨hO, grown_same _ _⟩
  have HL := Lib.hid (show ∀ wr xs, SortI w base g c n xs wr → ∀ i j, i < n → j < n → ∀ m, Calls Try.prog 37 #[.int .i64 (i : Nat), .int .i64 (j : Nat), .pointer (some ⟨gl, 0, none⟩)] (wr.drewN m) fun e w' => e = .returned (.int .i64 (cmpI (L i).frm (L j).frm)) ∧ ∃ q, w' = (wr.drewN m).drewN q from
    fun wr xs hS i j hi hj m => less_calls i j gl ao n cap L (wr.drewN m) ((World.cell?_of_block (hS.2.block gl hblk (by simp; omega))).trans hgl) (Rd.below (Rd.grown h hS.2 (fun b off x hx => by have := hg2 b off x hx; simp; omega)) (below_drewN (Below.refl _ _) m)) hi hj)
  clear h hO hg2 hgl
  go_enter Try.func72, Try.ntmps72
  go_wp2
  go_loopw [8] (fun vi wr => ∃ i : Nat, vi = .int .i64 i ∧ 1 ≤ i ∧ i ≤ n ∧ SortI w base g c n (arrO L n i) wr) (fun vi _ => n - (intOf vi).toNat)
  case atStart => exact ⟨1, rfl, Nat.le_refl _, h0, S0⟩
  case round =>
    obtain ⟨i, rfl, hi1, hin, hS⟩ := hrel
    by_cases hlt : i < n
    · have i0 : (i : Int) < (n : Int) := by omega
      go_wp2
      go_loopw [9] (fun vj wr => ∃ j : Nat, vj = .int .i64 j ∧ j ≤ i ∧ lateB L i j ∧ SortI w base g c n (arrI L n i j) wr) (fun vj _ => (intOf vj).toNat)
      case atStart => exact ⟨i, rfl, Nat.le_refl _, late_top L i, by rw [arrI_top hlt]; exact hS⟩
      case round =>
        obtain ⟨j, rfl, hji, hlate, hS⟩ := hrel
        have HLA := Lib.hid hlate
        clear hlate
        by_cases hj : 0 < j
        · obtain ⟨jp, rfl⟩ : ∃ jp, j = jp + 1 := ⟨j - 1, by omega⟩
          have hxl := ord_getD_lt (L := L) (i := i) (j := jp) (by omega)
          have hend := fun hl => arrI_end (L := L) (n := n) hji HLA.out (.inr hl)
          have hstep := fun hl => late_step (L := L) (i := i) (j := jp) hji HLA.out hl
          have hprev := arrI_prev (L := L) (n := n) hji
          have hswap := arrI_swap (L := L) (n := n) hji
          simp only [Nat.add_sub_cancel] at hend
          obtain ⟨x, hx⟩ : ∃ x, (ordL L i).getD jp 0 = x := ⟨_, rfl⟩
          rw [hx] at hxl hend hstep hprev hswap
          have cj := hS.cell (p := jp + 1) (by omega) (arrI_at hji)
          have cp := hS.cell (p := jp) (by omega) hprev
          have fj : wr.frozen? ⟨g, jp + 1, none⟩ = false := hS.1.frozenAt (jp + 1)
          have fp : wr.frozen? ⟨g, jp, none⟩ = false := hS.1.frozenAt jp
          have hc := HL.out wr _ hS i x hlt (by omega)
          have HE := Lib.hid hend
          have HST := Lib.hid hstep
          have HSW := Lib.hid hswap
          have HS := Lib.hid hS
          clear hx hend hstep hprev hswap hS
          have hwp : IntKind.i64.wrap (jp : Int) = (jp : Int) := by rw [IntKind.wrap_i64]; omega
          have jz : (jp : Int) + 1 < (n : Int) := by omega
          have jz1 : (jp : Int) < (n : Int) := by omega
          have jz0 : (0 : Int) < (jp : Int) + 1 := by omega
          have p0 : (0 : Int) ≤ (jp : Int) + 1 := by omega
          have e0 : ((jp : Int) + 1).toNat = jp + 1 := by omega
          by_cases hl : (L i).frm < (L x).frm
          · have hcm : cmpI (L i).frm (L x).frm = -1 := by simp [cmpI, hl]
            rw [hcm] at hc
            clear hcm
            go_wp2_with fail
            go_quiet ((go_at_call 37; exact Calls.quiet_of (hc _)))
            go_wp2_with fail
            have S2 := Lib.hid (HS.out.drewN nq)
            have cj2 : (wr.drewN nq).cell? ⟨g, jp + 1, none⟩ = some (.int .i64 (i : Int)) := cj
            have cp2 : (wr.drewN nq).cell? ⟨g, jp, none⟩ = some (.int .i64 (x : Int)) := cp
            have fj2 : (wr.drewN nq).frozen? ⟨g, jp + 1, none⟩ = false := fj
            have fp2 : (wr.drewN nq).frozen? ⟨g, jp, none⟩ = false := fp
            clear cj cp fj fp hc HS
            generalize wr.drewN nq = wq at *
            go_region
            all_goals go_wp2
            go_roundw
            case rel => exact ⟨jp, by first | rfl | go_num, by omega, HST.out hl, by rw [← HSW.out]; exact S2.out.swap (jp + 1) jp x i⟩
            case measure => simp [intOf] <;> omega
          · obtain ⟨u, hu⟩ : ∃ u, cmpI (L i).frm (L x).frm = u := ⟨_, rfl⟩
            have hu0 : ¬ u < 0 := by subst hu; simp only [cmpI, hl, if_false]; split <;> omega
            rw [hu] at hc
            clear hu
            go_wp2_with fail
            go_quiet ((go_at_call 37; exact Calls.quiet_of (hc _)))
            go_wp2
            go_roundw
            case rel => exact ⟨i + 1, by go_num, by omega, by omega, by rw [← HE.out (by omega)]; exact HS.out.drewN nq⟩
            case measure => simp [intOf]; omega
        · obtain rfl : j = 0 := by omega
          have hdj : decide ((0 : Int) < ((0 : Nat) : Int)) = false := by simp
          have HE := Lib.hid (arrI_end (L := L) (n := n) hji HLA.out (.inl rfl))
          have HS := Lib.hid hS
          clear hS
          go_wp2_with fail
          go_quiet (fail)
          go_wp2
          go_roundw
          case rel => exact ⟨i + 1, by go_num, by omega, by omega, by rw [← HE.out]; exact HS.out.drewN _⟩
          case measure => simp [intOf]; omega
    · obtain rfl : i = n := by omega
      rw [arrO_all (Nat.le_refl _) (Nat.le_refl _)] at hS
      have HS := Lib.hid hS
      clear hS
      go_wp2
      go_end0
      exact ⟨rfl, HS.out⟩
end Go.Proofs.Ythbemokpdcipaaa
