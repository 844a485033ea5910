/- PackLeases of the reference: its parts. -/
import Derived.Test.YthbemokpdcipaaaLeaseLaws3
namespace Go.Proofs.Ythbemokpdcipaaa
open Go.ChangeShapes Go.WideShapes Go.ChangeAt Go.RowKit
set_option linter.unusedVariables false

def hasI (f : Nat → Int) (x : Int) : Nat → Bool
  | 0 => false
  | k + 1 => hasI f x k || (f k == x)
theorem isIn_calls (ao : Option Addr) (n cap : Nat) (f : Nat → Int) (x : Int) (w : World) (h : RdI w ao n cap f) :
    Calls Try.prog 44 #[.slice ao n cap, .int .i64 x] w fun e w' => e = .returned (.bool (hasI f x n)) ∧ w = w' := by
  have hlen := h.len
  go_enter Try.func44, Try.ntmps44
  go_wp2
  go_loop [5] (fun i => ∃ k : Nat, k ≤ n ∧ i = .int .i64 k ∧ hasI f x k = false) (fun i => n - (intOf i).toNat)
  case atStart => exact ⟨0, Nat.zero_le _, rfl, rfl⟩
  case round =>
    obtain ⟨k, hk, rfl, hh⟩ := hrel
    have HH := Lib.hid hh
    clear hh
    by_cases hlt : k < n
    · obtain ⟨b, off, rfl, hb, hc⟩ := h.pos (by omega)
      have c0 := hc k hlt
      have i0 : (k : Int) < (n : Int) := by omega
      clear hc
      cases he : (f k == x)
      · have HN := Lib.hid (show hasI f x (k + 1) = false by simp only [hasI, HH.out, he]; rfl)
        go_wp2
        go_round
        case rel => exact ⟨k + 1, by omega, by go_num, HN.out⟩
        case measure => simp [intOf]; omega
      · have HN := Lib.hid (show hasI f x n = true from by
          have : ∀ j, k + 1 ≤ j → hasI f x j = true := by
            intro j
            induction j with
            | zero => intro h; omega
            | succ j ih =>
              intro h
              by_cases e : j = k
              · subst e; simp [hasI, he]
              · simp [hasI, ih (by omega)]
          exact this n hlt)
        go_wp2
        go_ret
        exact ⟨ret_bool HN.out.symm, rfl⟩
    · obtain rfl : k = n := by omega
      go_wp2
      go_ret
      exact ⟨ret_bool HH.out.symm, rfl⟩

/-- Whether one of the first d chosen has the connection and meets x. -/
def usedB (M : Nat → Lz) (o : Nat → Nat) (x : Lz) (c : Int) : Nat → Bool
  | 0 => false
  | i + 1 => usedB M o x c i || (decide ((M (o i)).conn = c) && meetB (M (o i)) x.frm x.til)
theorem usedB_yes {M : Nat → Lz} {o : Nat → Nat} {x : Lz} {c : Int} {i d : Nat} (hi : i < d) (h : (decide ((M (o i)).conn = c) && meetB (M (o i)) x.frm x.til) = true) : usedB M o x c d = true := by
  induction d with
  | zero => omega
  | succ d ih =>
    simp only [usedB, Bool.or_eq_true]
    by_cases e : i = d
    · subst e; exact .inr h
    · exact .inl (ih (by omega))
theorem usedB_step {M : Nat → Lz} {o : Nat → Nat} {x : Lz} {c : Int} {i : Nat} (h : usedB M o x c i = false) (h2 : (decide ((M (o i)).conn = c) && meetB (M (o i)) x.frm x.til) = false) : usedB M o x c (i + 1) = false := by simp only [usedB, h, h2]; rfl

set_option maxHeartbeats 1600000 in
theorem used_calls (a : Option Addr) (n ca : Nat) (M : Nat → Lz) (b : Option Addr) (d cb : Nat) (o : Nat → Nat) (c : Int) (x : Lz) (w : World) (h : RdL w a n ca M) (h' : RdI w b d cb (fun i => ((o i : Nat) : Int))) (ho : ∀ i, i < d → o i < n) :
    Calls Try.prog 45 #[.slice a n ca, .slice b d cb, .int .i64 c, .agg #[.int .i64 x.conn, .int .i64 x.owner, .int .i64 x.frm, .int .i64 x.til]] w fun e w' => e = .returned (.bool (usedB M o x c d)) ∧ Below w.heap.size w w' := by
  have hlen := h.len
  have hlen' := h'.len
  have HO := Lib.hid ho
  clear ho
  go_enter Try.func45, Try.ntmps45
  go_wp2
  have B1 : Below w.heap.size w (w.alloc (.cells #[.int .i64 x.conn, .int .i64 x.owner, .int .i64 x.frm, .int .i64 x.til] 29)) := (Below.refl _ _).alloc (Nat.le_refl _) _
  have R1 := h.below B1
  have R1' := h'.below B1
  have X1 : BoxL (w.alloc (.cells #[.int .i64 x.conn, .int .i64 x.owner, .int .i64 x.frm, .int .i64 x.til] 29)) w.heap.size x := heap_alloc_new _ _
  generalize (w.alloc (.cells #[.int .i64 x.conn, .int .i64 x.owner, .int .i64 x.frm, .int .i64 x.til] 29)) = w1 at *
  have HB1 := Lib.hid B1
  clear h h' B1
  generalize hg : w.heap.size = g at *
  go_loopw [9] (fun q wr => ∃ i : Nat, i ≤ d ∧ q = .int .i64 i ∧ usedB M o x c i = false ∧ Below w1.heap.size w1 wr) (fun q _ => d - (intOf q).toNat)
  case atStart => exact ⟨0, Nat.zero_le _, rfl, rfl, Below.refl _ _⟩
  case round =>
    obtain ⟨i, hi, rfl, hno, hB⟩ := hrel
    have HNO := Lib.hid hno
    clear hno
    by_cases hlt : i < d
    · have hoi := HO.out i hlt
      obtain ⟨b1, o1, rfl, hb1, hc1⟩ := R1'.pos (by omega)
      obtain ⟨b2, o2, rfl, hb2, hc2⟩ := R1.pos (by omega)
      have ro := hc1 i hlt
      obtain ⟨r0, r1, r2, r3⟩ := hc2 (o i) hoi
      have co := (hB.cell (p := ⟨b1, o1 + i, none⟩) hb1).trans ro
      have c0 := (hB.cell (p := ⟨b2, o2 + o i * 4, none⟩) hb2).trans r0
      have c1 := (hB.cell (p := ⟨b2, o2 + o i * 4 + 1, none⟩) hb2).trans r1
      have c2 := (hB.cell (p := ⟨b2, o2 + o i * 4 + 2, none⟩) hb2).trans r2
      have c3 := (hB.cell (p := ⟨b2, o2 + o i * 4 + 3, none⟩) hb2).trans r3
      obtain ⟨c4, c5, c6, c7⟩ := (X1.below hB).cells
      have i0 : (i : Int) < (d : Int) := by omega
      have i1 : ((o i : Nat) : Int) < (n : Int) := by omega
      have hz := hB.size
      clear hc1 hc2
      by_cases he : (M (o i)).conn = c
      · have he' : ((M (o i)).conn == c) = true := by simp [he]
        have V := fun w => specmeets_calls (M (o i)) x w
        cases hm : meetB (M (o i)) x.frm x.til
        · rw [hm] at V
          have HN := Lib.hid (usedB_step HNO.out (show (decide ((M (o i)).conn = c) && meetB (M (o i)) x.frm x.til) = false by rw [hm]; simp))
          clear hm he
          go_wp2
          go_region_held3 (fun w' => w'.cell? ⟨b1, o1 + i, none⟩ = some (.int .i64 (o i : Nat)) ∧ w'.cell? ⟨b2, o2 + o i * 4, none⟩ = some (.int .i64 (M (o i)).conn) ∧ w'.cell? ⟨b2, o2 + o i * 4 + 1, none⟩ = some (.int .i64 (M (o i)).owner) ∧ w'.cell? ⟨b2, o2 + o i * 4 + 2, none⟩ = some (.int .i64 (M (o i)).frm) ∧ w'.cell? ⟨b2, o2 + o i * 4 + 3, none⟩ = some (.int .i64 (M (o i)).til) ∧ w'.cell? ⟨g, 0, none⟩ = some (.int .i64 x.conn) ∧ w'.cell? ⟨g, 1, none⟩ = some (.int .i64 x.owner) ∧ w'.cell? ⟨g, 2, none⟩ = some (.int .i64 x.frm) ∧ w'.cell? ⟨g, 3, none⟩ = some (.int .i64 x.til)) (go_keep)
            (first | (go_at_call 69; refine (V _).mono ?_; rintro e w2 ⟨rfl, hb⟩; have hB3 : Below w1.heap.size w1 w2 := (below_drew hB).trans (hb.mono hz); have so := (hB3.cell (p := ⟨b1, o1 + i, none⟩) hb1).trans ro; have s0 := (hB3.cell (p := ⟨b2, o2 + o i * 4, none⟩) hb2).trans r0; have s1 := (hB3.cell (p := ⟨b2, o2 + o i * 4 + 1, none⟩) hb2).trans r1; have s2 := (hB3.cell (p := ⟨b2, o2 + o i * 4 + 2, none⟩) hb2).trans r2; have s3 := (hB3.cell (p := ⟨b2, o2 + o i * 4 + 3, none⟩) hb2).trans r3; obtain ⟨s4, s5, s6, s7⟩ := (X1.below hB3).cells))
          go_wp2
          go_roundw
          case rel => exact ⟨i + 1, by omega, by go_num, HN.out, hB3⟩
          case measure => simp [intOf]; omega
        · rw [hm] at V
          have HN := Lib.hid (usedB_yes (M := M) (o := o) (x := x) (c := c) hlt (by rw [hm]; simp [he]))
          clear hm he
          go_wp2
          go_region_held3 (fun w' => w'.cell? ⟨b1, o1 + i, none⟩ = some (.int .i64 (o i : Nat)) ∧ w'.cell? ⟨b2, o2 + o i * 4, none⟩ = some (.int .i64 (M (o i)).conn) ∧ w'.cell? ⟨b2, o2 + o i * 4 + 1, none⟩ = some (.int .i64 (M (o i)).owner) ∧ w'.cell? ⟨b2, o2 + o i * 4 + 2, none⟩ = some (.int .i64 (M (o i)).frm) ∧ w'.cell? ⟨b2, o2 + o i * 4 + 3, none⟩ = some (.int .i64 (M (o i)).til) ∧ w'.cell? ⟨g, 0, none⟩ = some (.int .i64 x.conn) ∧ w'.cell? ⟨g, 1, none⟩ = some (.int .i64 x.owner) ∧ w'.cell? ⟨g, 2, none⟩ = some (.int .i64 x.frm) ∧ w'.cell? ⟨g, 3, none⟩ = some (.int .i64 x.til)) (go_keep)
            (first | (go_at_call 69; refine (V _).mono ?_; rintro e w2 ⟨rfl, hb⟩; have hB3 : Below w1.heap.size w1 w2 := (below_drew hB).trans (hb.mono hz); have so := (hB3.cell (p := ⟨b1, o1 + i, none⟩) hb1).trans ro; have s0 := (hB3.cell (p := ⟨b2, o2 + o i * 4, none⟩) hb2).trans r0; have s1 := (hB3.cell (p := ⟨b2, o2 + o i * 4 + 1, none⟩) hb2).trans r1; have s2 := (hB3.cell (p := ⟨b2, o2 + o i * 4 + 2, none⟩) hb2).trans r2; have s3 := (hB3.cell (p := ⟨b2, o2 + o i * 4 + 3, none⟩) hb2).trans r3; obtain ⟨s4, s5, s6, s7⟩ := (X1.below hB3).cells))
          go_wp2
          subst hg
          go_ret
          exact ⟨ret_bool HN.out.symm, HB1.out.trans (hB3.mono HB1.out.size)⟩
      · have he' : ((M (o i)).conn == c) = false := by simp [he]
        have HN := Lib.hid (usedB_step HNO.out (show (decide ((M (o i)).conn = c) && meetB (M (o i)) x.frm x.til) = false by simp [he]))
        clear he
        go_wp2
        go_quiet (fail)
        go_wp2
        go_roundw
        case rel => exact ⟨i + 1, by omega, by go_num, HN.out, below_drewN hB _⟩
        case measure => simp [intOf]; omega
    · obtain rfl : i = d := by omega
      go_wp2
      subst hg
      go_ret
      exact ⟨ret_bool HNO.out.symm, HB1.out.trans (hB.mono HB1.out.size)⟩
end Go.Proofs.Ythbemokpdcipaaa
