/- The program's sort whole; whether a connection is taken. -/
import Derived.Test.YthbemokpdcipaaaPack4
namespace Go.Proofs.Ythbemokpdcipaaa
open Go.ChangeShapes Go.WideShapes Go.ChangeAt Go.RowKit
set_option linter.unusedVariables false

theorem insSort0_calls (f : Value) (v : Value) (w : World) : Calls Try.prog 72 #[v, .int .i64 0, .int .i64 0, f] w fun e w' => e = .returned (.tuple #[]) ∧ w = w' := by
  go_enter Try.func72, Try.ntmps72
  go_wp2
  go_loopw [8] (fun vi wr => vi = .int .i64 1 ∧ w = wr) (fun _ _ => 0)
  case atStart => exact ⟨rfl, rfl⟩
  case round =>
    obtain ⟨rfl, rfl⟩ := hrel
    go_wp2
    go_end0
    exact ⟨rfl, rfl⟩
/-- What the sort leaves. -/
def Sorted (w : World) (base : Nat) (b : Option Addr) (c n : Nat) (L : Nat → Lz) (e : Ending) (w' : World) : Prop :=
  e = .returned (.tuple #[]) ∧ w'.ownsRow base 3 1 (.slice b n c) n (natV (ordL L n)) ∧ w.grownBy w' (Value.slice b n c).ownBlock
theorem insSortA_calls (gl : Nat) (ao : Option Addr) (n cap : Nat) (L : Nat → Lz) (w : World) (base : Nat) (b : Option Addr) (c : Nat) (hgl : w.cell? ⟨gl, 0, none⟩ = some (.slice ao n cap)) (h : RdL w ao n cap L) (hn : n ≤ 100)
    (hO : w.ownsRow base 3 1 (.slice b n c) n (natV (List.range n))) (hg1 : gl < base) (hg2 : 0 < n → ∀ b off x, ao = some ⟨b, off, x⟩ → b < base) :
    Calls Try.prog 72 #[.slice b n c, .int .i64 0, .int .i64 n, .func (.func 37) #[] #[.pointer (some ⟨gl, 0, none⟩)]] w (Sorted w base b c n L) := by
  by_cases h0 : 0 < n
  · obtain ⟨g, c2, hf⟩ := own_form hO h0
    injection hf with e1 e2 e3
    subst e1 e3
    exact (insSort_calls gl ao n cap L w base g c hgl h hn h0 hO hg1 (hg2 h0)).mono fun e w' ⟨he, h1, h2⟩ => ⟨he, h1, h2⟩
  · obtain rfl : n = 0 := by omega
    exact (insSort0_calls _ _ w).mono fun e w' ⟨he, hw⟩ => ⟨he, by subst hw; exact hO, by subst hw; exact grown_same _ _⟩
theorem stable_calls (gl : Nat) (ao : Option Addr) (n cap : Nat) (L : Nat → Lz) (w : World) (base : Nat) (b : Option Addr) (c : Nat) (hgl : w.cell? ⟨gl, 0, none⟩ = some (.slice ao n cap)) (h : RdL w ao n cap L) (hn : n ≤ 12)
    (hO : w.ownsRow base 3 1 (.slice b n c) n (natV (List.range n))) (hg1 : gl < base) (hg2 : 0 < n → ∀ b off x, ao = some ⟨b, off, x⟩ → b < base) :
    Calls Try.prog 65 #[.slice b n c, .int .i64 n, .func (.func 37) #[] #[.pointer (some ⟨gl, 0, none⟩)]] w (Sorted w base b c n L) := by
  have V := insSortA_calls gl ao n cap L w base b c hgl h (by omega) hO hg1 hg2
  have i0 : ¬ (20 : Int) ≤ (n : Int) := by omega
  have i1 : ¬ (20 : Int) < (n : Int) := by omega
  clear hgl h hO hg1 hg2
  go_enter Try.func65, Try.ntmps65
  go_wp2
  go_loopw [7, 8] (fun va vb wr => va = .int .i64 0 ∧ vb = .int .i64 20 ∧ w = wr) (fun _ _ _ => 0)
  case atStart => exact ⟨rfl, rfl, rfl⟩
  case round =>
    obtain ⟨rfl, rfl, rfl⟩ := hrel
    go_wp2_with fail
    refine V.mono ?_
    rintro e w1 ⟨rfl, hs⟩
    have HS := Lib.hid hs
    clear hs
    go_wp2
    go_loopw [6, 7, 8] (fun vs va vb wr => vs = .int .i64 20 ∧ w1 = wr) (fun _ _ _ _ => 0)
    case atStart => exact ⟨rfl, rfl⟩
    case round =>
      obtain ⟨rfl, rfl⟩ := hrel
      go_wp2
      go_end0
      exact ⟨rfl, HS.out⟩
theorem sort_calls (gl : Nat) (ao : Option Addr) (n cap : Nat) (L : Nat → Lz) (w : World) (base : Nat) (b : Option Addr) (c : Nat) (hgl : w.cell? ⟨gl, 0, none⟩ = some (.slice ao n cap)) (h : RdL w ao n cap L) (hn : n ≤ 12)
    (hO : w.ownsRow base 3 1 (.slice b n c) n (natV (List.range n))) (hg1 : gl < base) (hg2 : 0 < n → ∀ b off x, ao = some ⟨b, off, x⟩ → b < base) :
    Calls Try.prog 36 #[.slice b n c, .func (.func 37) #[] #[.pointer (some ⟨gl, 0, none⟩)]] w (Sorted w base b c n L) := by
  have V := stable_calls gl ao n cap L w base b c hgl h hn hO hg1 hg2
  clear hgl h hO hg1 hg2
  go_enter Try.func36, Try.ntmps36
  go_wp2_with fail
  refine V.mono ?_
  rintro e w1 ⟨rfl, hs⟩
  have HS := Lib.hid hs
  clear hs
  go_wp2
  go_end0
  exact ⟨rfl, HS.out⟩

/-! ### Whether a connection is taken -/
set_option maxHeartbeats 1600000 in
theorem takes_calls (k q go gc gi : Nat) (a : Option Addr) (n ca : Nat) (M : Nat → Lz) (c : Int) (w : World) (h : RdL w a n ca M) (hgo : w.cell? ⟨go, 0, none⟩ = some (.slice a n ca)) (hgc : w.cell? ⟨gc, 0, none⟩ = some (.int .i64 c)) (hgi : w.cell? ⟨gi, 0, none⟩ = some (.int .i64 (q : Nat))) (hk : k < n) (hq : q < n) :
    Calls Try.prog 41 #[.int .i64 k, .pointer (some ⟨go, 0, none⟩), .pointer (some ⟨gc, 0, none⟩), .pointer (some ⟨gi, 0, none⟩)] w fun e w' => e = .returned (.bool (decide ((M k).conn = c) && meetB (M k) (M q).frm (M q).til)) ∧ Below w.heap.size w w' := by
  have hlen := h.len
  have lo := World.block_lt_of_cell? w _ hgo
  have lc := World.block_lt_of_cell? w _ hgc
  have li := World.block_lt_of_cell? w _ hgi
  obtain ⟨b, off, rfl, hb, hc⟩ := h.pos (by omega)
  obtain ⟨c0, c1, c2, c3⟩ := hc k hk
  obtain ⟨_, _, d2, d3⟩ := hc q hq
  have i0 : (k : Int) < (n : Int) := by omega
  have i1 : (q : Int) < (n : Int) := by omega
  clear hc
  by_cases he : (M k).conn = c
  · have he' : ((M k).conn == c) = true := by simp [he]
    have V := fun w => implmeets_calls (M k) (M q).frm (M q).til w
    have HE := Lib.hid (show (decide ((M k).conn = c) && meetB (M k) (M q).frm (M q).til) = meetB (M k) (M q).frm (M q).til by simp [he])
    clear he
    go_enter Try.func41, Try.ntmps41
    go_wp2_with fail
    go_region_held3 (fun w' => w'.cell? ⟨go, 0, none⟩ = some (.slice (some ⟨b, off, none⟩) n ca) ∧ w'.cell? ⟨gc, 0, none⟩ = some (.int .i64 c) ∧ w'.cell? ⟨gi, 0, none⟩ = some (.int .i64 (q : Nat)) ∧ w'.cell? ⟨b, off + k * 4, none⟩ = some (.int .i64 (M k).conn) ∧ w'.cell? ⟨b, off + k * 4 + 1, none⟩ = some (.int .i64 (M k).owner) ∧ w'.cell? ⟨b, off + k * 4 + 2, none⟩ = some (.int .i64 (M k).frm) ∧ w'.cell? ⟨b, off + k * 4 + 3, none⟩ = some (.int .i64 (M k).til) ∧ w'.cell? ⟨b, off + q * 4 + 2, none⟩ = some (.int .i64 (M q).frm) ∧ w'.cell? ⟨b, off + q * 4 + 3, none⟩ = some (.int .i64 (M q).til)) (go_keep)
      (first | (go_at_call 42; refine (V _).mono ?_; rintro e w2 ⟨rfl, hb2⟩; have hB3 : Below w.heap.size w w2 := (below_drew (Below.refl _ _)).trans (hb2.mono (Nat.le_refl _)); have s0 := (hB3.cell (p := ⟨go, 0, none⟩) lo).trans hgo; have s1 := (hB3.cell (p := ⟨gc, 0, none⟩) lc).trans hgc; have s2 := (hB3.cell (p := ⟨gi, 0, none⟩) li).trans hgi; have s3 := (hB3.cell (p := ⟨b, off + k * 4, none⟩) hb).trans c0; have s4 := (hB3.cell (p := ⟨b, off + k * 4 + 1, none⟩) hb).trans c1; have s5 := (hB3.cell (p := ⟨b, off + k * 4 + 2, none⟩) hb).trans c2; have s6 := (hB3.cell (p := ⟨b, off + k * 4 + 3, none⟩) hb).trans c3; have s7 := (hB3.cell (p := ⟨b, off + q * 4 + 2, none⟩) hb).trans d2; have s8 := (hB3.cell (p := ⟨b, off + q * 4 + 3, none⟩) hb).trans d3))
    go_wp2
    go_ret
    exact ⟨ret_bool HE.out.symm, hB3⟩
  · have he' : ((M k).conn == c) = false := by simp [he]
    have HE := Lib.hid (show (decide ((M k).conn = c) && meetB (M k) (M q).frm (M q).til) = false by simp [he])
    clear he
    go_enter Try.func41, Try.ntmps41
    go_wp2
    go_quiet (fail)
    go_wp2
    go_ret
    exact ⟨ret_bool HE.out.symm, below_drewN (Below.refl _ _) _⟩

/-- The cells that a closure reads. -/
def TakC (w : World) (go gc gi : Nat) (a : Option Addr) (n ca : Nat) (M : Nat → Lz) (c : Int) (q : Nat) : Prop :=
  RdL w a n ca M ∧ w.cell? ⟨go, 0, none⟩ = some (.slice a n ca) ∧ w.cell? ⟨gc, 0, none⟩ = some (.int .i64 c) ∧ w.cell? ⟨gi, 0, none⟩ = some (.int .i64 (q : Nat))
theorem TakC.below {w w' : World} {go gc gi : Nat} {a : Option Addr} {n ca : Nat} {M : Nat → Lz} {c : Int} {q : Nat} (h : TakC w go gc gi a n ca M c q) (hb : Below w.heap.size w w') : TakC w' go gc gi a n ca M c q :=
  ⟨Rd.below h.1 hb, (hb.cell (p := ⟨go, 0, none⟩) (World.block_lt_of_cell? w _ h.2.1)).trans h.2.1, (hb.cell (p := ⟨gc, 0, none⟩) (World.block_lt_of_cell? w _ h.2.2.1)).trans h.2.2.1, (hb.cell (p := ⟨gi, 0, none⟩) (World.block_lt_of_cell? w _ h.2.2.2)).trans h.2.2.2⟩

theorem idxT_calls (go gc gi : Nat) (a : Option Addr) (n ca : Nat) (M : Nat → Lz) (c : Int) (q : Nat) (b : Option Addr) (d cb : Nat) (o : Nat → Nat) (w : World) (h : TakC w go gc gi a n ca M c q) (hq : q < n) (h' : RdI w b d cb (fun i => ((o i : Nat) : Int))) (ho : ∀ i, i < d → o i < n) :
    Calls Try.prog 67 #[.slice b d cb, .func (.func 41) #[] #[.pointer (some ⟨go, 0, none⟩), .pointer (some ⟨gc, 0, none⟩), .pointer (some ⟨gi, 0, none⟩)]] w (Idx (usedB M o (M q) c d) w) := by
  have hlen := h'.len
  have HO := Lib.hid ho
  have HT := Lib.hid h
  clear ho h
  go_enter Try.func67, Try.ntmps67
  go_wp2
  go_loopw [8] (fun i wr => ∃ k : Nat, k ≤ d ∧ i = .int .i64 k ∧ usedB M o (M q) c k = false ∧ Below w.heap.size w wr) (fun i _ => d - (intOf i).toNat)
  case atStart => exact ⟨0, Nat.zero_le _, rfl, rfl, Below.refl _ _⟩
  case round =>
    obtain ⟨k, hk, rfl, hok, hB⟩ := hrel
    have HK := Lib.hid hok
    clear hok
    by_cases hlt : k < d
    · obtain ⟨b1, o1, rfl, hb1, hc1⟩ := h'.pos (by omega)
      have ck : wr.cell? ⟨b1, o1 + k, none⟩ = some (.int .i64 (o k : Nat)) := (hB.cell (p := ⟨b1, o1 + k, none⟩) hb1).trans (hc1 k hlt)
      have i0 : (k : Int) < (d : Int) := by omega
      clear hc1
      have T := HT.out.below hB
      have V := takes_calls (o k) q go gc gi a n ca M c wr T.1 T.2.1 T.2.2.1 T.2.2.2 (HO.out k hlt) hq
      clear T
      cases hcl : (decide ((M (o k)).conn = c) && meetB (M (o k)) (M q).frm (M q).til)
      · have HN := Lib.hid (usedB_step HK.out hcl)
        rw [hcl] at V
        clear hcl
        go_wp2_with (go_at_call 41; refine (V).mono ?_; rintro e w' ⟨rfl, hb2⟩)
        go_roundw
        case rel => exact ⟨k + 1, by omega, by go_num, HN.out, hB.trans (hb2.mono hB.size)⟩
        case measure => simp [intOf]; omega
      · have HN := Lib.hid (usedB_yes hlt hcl)
        rw [hcl] at V
        clear hcl
        go_wp2_with (go_at_call 41; refine (V).mono ?_; rintro e w' ⟨rfl, hb2⟩)
        go_ret
        exact ⟨(k : Int), rfl, by rw [HN.out]; simp, hB.trans (hb2.mono hB.size)⟩
    · obtain rfl : k = d := by omega
      go_wp2
      go_ret
      exact ⟨-1, rfl, by rw [HK.out]; rfl, hB⟩
theorem anyT_calls (go gc gi : Nat) (a : Option Addr) (n ca : Nat) (M : Nat → Lz) (c : Int) (q : Nat) (b : Option Addr) (d cb : Nat) (o : Nat → Nat) (w : World) (h : TakC w go gc gi a n ca M c q) (hq : q < n) (h' : RdI w b d cb (fun i => ((o i : Nat) : Int))) (ho : ∀ i, i < d → o i < n) :
    Calls Try.prog 40 #[.slice b d cb, .func (.func 41) #[] #[.pointer (some ⟨go, 0, none⟩), .pointer (some ⟨gc, 0, none⟩), .pointer (some ⟨gi, 0, none⟩)]] w fun e w' => e = .returned (.bool (usedB M o (M q) c d)) ∧ Below w.heap.size w w' := by
  go_enter Try.func40, Try.ntmps40
  go_wp2_with fail
  refine (idxT_calls go gc gi a n ca M c q b d cb o w h hq h' ho).mono ?_
  rintro e w1 ⟨v, rfl, hv, hb⟩
  have HV := Lib.hid hv
  clear hv h h' ho
  go_wp2
  go_ret
  exact ⟨ret_bool HV.out, hb⟩
theorem taken_calls (gr gn go gi : Nat) (a : Option Addr) (n ca : Nat) (M : Nat → Lz) (c : Int) (q : Nat) (b : Option Addr) (d cb : Nat) (o : Nat → Nat) (w : World) (h : RdL w a n ca M) (hgo : w.cell? ⟨go, 0, none⟩ = some (.slice a n ca)) (hgi : w.cell? ⟨gi, 0, none⟩ = some (.int .i64 (q : Nat)))
    (hgr : w.cell? ⟨gr, 0, none⟩ = some (.slice b n cb)) (hgn : w.cell? ⟨gn, 0, none⟩ = some (.int .i64 (d : Nat))) (hq : q < n) (hd : d ≤ n) (h' : RdI w b n cb (fun i => ((o i : Nat) : Int))) (ho : ∀ i, i < d → o i < n) :
    Calls Try.prog 39 #[.int .i64 c, .pointer (some ⟨gr, 0, none⟩), .pointer (some ⟨gn, 0, none⟩), .pointer (some ⟨go, 0, none⟩), .pointer (some ⟨gi, 0, none⟩)] w fun e w' => e = .returned (.bool (usedB M o (M q) c d)) ∧ Below w.heap.size w w' := by
  have B1 : Below w.heap.size w (w.alloc (.cells #[.int .i64 c] 3)) := (Below.refl _ _).alloc (Nat.le_refl _) _
  have hc1 : (w.alloc (.cells #[.int .i64 c] 3)).cell? ⟨w.heap.size, 0, none⟩ = some (.int .i64 c) := by
    rw [cell_of_row _ w.heap.size _ _ _ _ (heap_alloc_new w _)]; rfl
  have hh := h'.1
  have hh2 := h'.2.1
  unfold maxLen at hh2
  have i0 : (d : Int) ≤ (cb : Int) := by omega
  obtain ⟨b1, o1, rfl, hb1, _⟩ := h'.pos (by omega)
  have V := anyT_calls go w.heap.size gi a n ca M c q (some ⟨b1, o1, none⟩) d cb o _ ⟨Rd.below h B1, (B1.cell (p := ⟨go, 0, none⟩) (World.block_lt_of_cell? w _ hgo)).trans hgo, hc1, (B1.cell (p := ⟨gi, 0, none⟩) (World.block_lt_of_cell? w _ hgi)).trans hgi⟩ hq (Rd.take (Rd.below h' B1) hd) ho
  have l1 := World.block_lt_of_cell? w _ hgr
  have l2 := World.block_lt_of_cell? w _ hgn
  simp only at l1 l2
  have n1 : ¬ w.heap.size = gr := by omega
  have n2 : ¬ gr = w.heap.size := by omega
  have n3 : ¬ w.heap.size = gn := by omega
  have n4 : ¬ gn = w.heap.size := by omega
  clear h h' ho hc1
  go_enter Try.func39, Try.ntmps39
  go_wp2_with fail
  refine V.mono ?_
  rintro e w1 ⟨rfl, hb⟩
  go_wp2
  go_ret
  exact ⟨rfl, B1.trans (hb.mono B1.size)⟩
end Go.Proofs.Ythbemokpdcipaaa
