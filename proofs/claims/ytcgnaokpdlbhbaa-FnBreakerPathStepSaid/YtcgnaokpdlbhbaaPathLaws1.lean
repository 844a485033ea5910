/- The walk of the exact law on BreakerPath. -/
import Derived.Test.YtcgnaokpdlbhbaaPath2
import Derived.Test.YtcgnaokpdlbhbaaToBools
import Derived.Test.YtcgnaokpdlbhbaaMarkIntsC
namespace Go.Proofs.Ytcgnaokpdlbhbaa
open Go.ChangeShapes Go.WideShapes Go.ChangeAt Go.RowKit
set_option linter.unusedVariables false

theorem own_grown {w w' : World} {B e s n : Nat} {v : Value} {xs : List Value} {row : Option Nat} (h : w.ownsRow B e s v n xs) (hg : w.grownBy w' row) (hne : ∀ g, row = some g → v.ownBlock ≠ some g) : w'.ownsRow B e s v n xs := by
  refine h.kept hg ?_
  cases hv : v.ownBlock
  · exact .inl rfl
  · right
    intro e'
    exact hne _ e'.symm hv
theorem RdI_of_ownL {w : World} {base : Nat} {e : TypeId} {ao : Option Addr} {n cap : Nat} {zs : List Int} (hl : zs.length = n) (h : w.ownsRow base e 1 (.slice ao n cap) n (zs.map (Value.int .i64))) : RdI w ao n cap (fun i => zs.getD i 0) := by
  subst hl
  obtain ⟨a, c, h1, h2, _⟩ := RdI_of_own h
  injection h1 with h1a h1b h1c
  subst h1a h1c
  exact h2
theorem RdI_own {w : World} {base : Nat} {e : TypeId} {ao : Option Addr} {n cap : Nat} {T : Nat → Int} (h : w.ownsRow base e 1 (.slice ao n cap) n (((List.range n).map T).map (Value.int .i64))) : RdI w ao n cap T :=
  Rd.congr (RdI_of_ownL (by simp) h) fun i hi j _ => congrArg (Value.int .i64) (by simp [hi])
theorem RdB_own {w : World} {base : Nat} {e : TypeId} {ao : Option Addr} {n cap : Nat} {G : Nat → Bool} (h : w.ownsRow base e 1 (.slice ao n cap) n (((List.range n).map G).map Value.bool)) : RdB w ao n cap G := by
  have hl : ((List.range n).map G).length = n := by simp
  have h' : w.ownsRow base e 1 (.slice ao n cap) ((List.range n).map G).length (((List.range n).map G).map Value.bool) := by rw [hl]; exact h
  obtain ⟨a, c, h1, h2, _⟩ := RdB_of_own h'
  rw [hl] at h1 h2
  injection h1 with h1a h1b h1c
  subst h1a h1c
  exact Rd.congr h2 fun i hi j _ => congrArg Value.bool (by simp [hi])

/-- What the marks leave. -/
def MarkedB (w : World) (base : Nat) (v : Value) (n : Nat) (k : Int) (e : Ending) (w' : World) : Prop :=
  e = .returned (.int .i64 (k + n)) ∧ w.grownBy w' v.ownBlock
theorem markBoolS_calls {base : Nat} {ao : Option Addr} {n cap : Nat} {xs : List Value} (k : Int) (w : World) (h : w.ownsRow base 4 1 (.slice ao n cap) n xs) (hn : n ≤ 1048576) (hk : 0 ≤ k) (hk1 : k ≤ 10000000) :
    Calls Try.prog 39 #[.slice ao n cap, .int .i64 k] w (MarkedB w base (.slice ao n cap) n k) := by
  go_enter Try.func39, Try.ntmps39
  go_wp2
  go_loopw [1, 5] (fun q i wr => ∃ j : Nat, j ≤ n ∧ i = .int .i64 j ∧ q = .int .i64 (k + j) ∧ (∃ ys, wr.ownsRow base 4 1 (.slice ao n cap) n ys) ∧ w.grownBy wr (Value.slice ao n cap).ownBlock)
    (fun _ i _ => n - (intOf i).toNat)
  case atStart => exact ⟨0, Nat.zero_le _, rfl, by simp, ⟨_, h⟩, grown_refl _ _⟩
  case round =>
    obtain ⟨j, hj, rfl, rfl, ⟨ys, hO⟩, hG⟩ := hrel
    by_cases hlt : j < n
    · obtain ⟨g, cap', hf⟩ := own_form hO (by omega)
      injection hf with e1 e2 e3
      subst e1 e3
      obtain ⟨u, hu⟩ := own_some hO j (by omega)
      have hfz := hO.frozenAt j
      have H1 := Lib.hid hO
      have H2 := Lib.hid hG
      clear hO hG h
      go_wp2
      go_roundw
      case rel => exact ⟨j + 1, by omega, by go_num, by go_num, ⟨_, (H1.out.stored j _).1⟩, grown_trans H2.out (H1.out.stored j _).2 (fun x hx => .inr hx)⟩
      case measure => simp [intOf]; omega
    · obtain rfl : j = n := by omega
      have HG := Lib.hid hG
      clear hG h hO
      go_wp2
      go_ret
      exact ⟨rfl, HG.out⟩

set_option maxHeartbeats 3200000 in
theorem fnExactBreakerPath_walk (b : Bk) (ag : Option Addr) (n cg : Nat) (G : Nat → Bool) (at' : Option Addr) (m ct : Nat) (T : Nat → Int) (w : World) (_h : True) (hG : RdB w ag n cg G) (hT : RdI w at' m ct T) :
    Calls Try.prog 15 #[.agg #[.int .i64 b.limit, .int .i64 b.rest, .int .i64 b.state, .int .i64 b.fails, .int .i64 b.since], .slice ag n cg, .slice at' m ct] w (SaysTrue w) := by
  have hlen := hG.len
  have hlen2 := hT.len
  clear _h
  have D1 : Below w.heap.size w (w.alloc (.cells #[.int .i64 b.limit, .int .i64 b.rest, .int .i64 b.state, .int .i64 b.fails, .int .i64 b.since] 23)) := (Below.refl _ _).alloc (Nat.le_refl _) _
  by_cases hn : 1048576 < n
  · go_enter Try.func15, Try.ntmps15
    go_wp2
    go_ret
    exact ⟨rfl, D1⟩
  · by_cases hm : 1048576 < m
    · go_enter Try.func15, Try.ntmps15
      go_wp2
      go_ret
      exact ⟨rfl, D1⟩
    · have hZ := pathB_len (b := b) (n := n) (m := m) (G := G) (T := T)
      have I := fun ag cg at' ct w hG hT => implBreakerPath_own b ag n cg G at' m ct T w hG hT
      have S := fun ag cg at' ct w hG hT => specBreakerPath_own b ag n cg G at' m ct T w hG hT
      generalize pathB b n m G T = Z at *
      have HI := Lib.hid I
      have HS := Lib.hid S
      have X1 := heap_alloc_new w (.cells #[.int .i64 b.limit, .int .i64 b.rest, .int .i64 b.state, .int .i64 b.fails, .int .i64 b.since] 23)
      clear I S
      go_enter Try.func15, Try.ntmps15
      go_wp2_with fail
      generalize (w.alloc (.cells #[.int .i64 b.limit, .int .i64 b.rest, .int .i64 b.state, .int .i64 b.fails, .int .i64 b.since] 23)) = w1 at *
      have HX1 := Lib.hid X1
      have HX1' := Lib.hid X1
      obtain ⟨x0, x1, x2, x3, x4, _, _, _, _, _⟩ := blk5 X1
      clear X1
      go_wp2_with fail
      refine (toBreaker_calls b _).mono ?_
      rintro e w2 ⟨rfl, hb2⟩
      have D2 := D1.trans (hb2.mono D1.size)
      have HX2 := Lib.hid (keepBel hb2 HX1.out)
      clear x0 x1 x2 x3 x4 HX1
      go_wp2_with fail
      refine (toBoolS_own ag n cg G _ (hG.below D2) (by omega)).mono ?_
      rintro e w3 ⟨v3, rfl, OB3, ⟨ab3, cb3, rfl⟩, hb3⟩
      have D3 := D2.trans (hb3.mono D2.size)
      go_wp2_with fail
      refine (toIntS_own at' m ct T _ (hT.below D3) (by omega)).mono ?_
      rintro e w4 ⟨v4, rfl, OI4, ⟨ai4, ci4, rfl⟩, hb4⟩
      have D4 := D3.trans (hb4.mono D3.size)
      have RB4 := RdB_own (own_below OB3 hb4)
      have RI4 := RdI_own OI4
      have HX4 := Lib.hid (keepBel hb4 (keepBel hb3 HX2.out))
      clear OB3 OI4 HX2
      go_wp2_with fail
      refine (HS.out _ _ _ _ _ RB4 RI4).mono ?_
      rintro e w5 ⟨aw, cw, rfl, OW5, hb5⟩
      have D5 := D4.trans (hb5.mono D4.size)
      have HX5 := Lib.hid (keepBel hb5 HX4.out)
      have wlt := OW5.lt
      clear RB4 RI4 HX4
      go_wp2_with fail
      refine (toBoolS_own ag n cg G _ (hG.below D5) (by omega)).mono ?_
      rintro e w6 ⟨v6, rfl, OB6, ⟨ab, cb, rfl⟩, hb6⟩
      have D6 := D5.trans (hb6.mono D5.size)
      have HX6 := Lib.hid (keepBel hb6 HX5.out)
      have OW6 := own_below OW5 hb6
      have blt := OB6.lt
      clear HX5 OW5
      go_wp2_with fail
      refine (toIntS_own at' m ct T _ (hT.below D6) (by omega)).mono ?_
      rintro e w7 ⟨v7, rfl, OI7, ⟨ai, ci, rfl⟩, hb7⟩
      have D7 := D6.trans (hb7.mono D6.size)
      have X7 := keepBel hb7 HX6.out
      have OW7 := own_below OW6 hb7
      have OB7 := own_below OB6 hb7
      have ilt := OI7.lt
      clear OW6 OB6 HX6
      have s2 := hb2.size
      have s3 := hb3.size
      have s4 := hb4.size
      have s5 := hb5.size
      have s6 := hb6.size
      have s7 := hb7.size
      have HX7 := Lib.hid X7
      obtain ⟨x0, x1, x2, x3, x4, _, _, _, _, _⟩ := blk5 X7
      clear X7
      go_wp2_with fail
      refine (toBreaker_calls b _).mono ?_
      rintro e w8 ⟨rfl, hb8⟩
      have D8 := D7.trans (hb8.mono D7.size)
      have HX8 := Lib.hid (keepBel hb8 HX7.out)
      have OW8 := own_below OW7 hb8
      have OB8 := own_below OB7 hb8
      have OI8 := own_below OI7 hb8
      clear x0 x1 x2 x3 x4 HX7 OW7 OB7 OI7
      go_wp2_with fail
      refine (HI.out _ _ _ _ _ (RdB_own OB8) (RdI_own OI8)).mono ?_
      rintro e w9 ⟨ap, cp, rfl, OG9, hb9⟩
      have D9 := D8.trans (hb9.mono D8.size)
      have HX9 := Lib.hid (keepBel hb9 HX8.out)
      have OW9 := own_below OW8 hb9
      have OB9 := own_below OB8 hb9
      have OI9 := own_below OI8 hb9
      have glt := OG9.lt
      have s8 := hb8.size
      have s9 := hb9.size
      clear OW8 OB8 OI8 HX8
      go_wp2_with fail
      refine (eqIntS_calls _ _ _ _ _ _ _ (RdI_of_ownL rfl OG9) (RdI_of_ownL rfl OW9)).mono ?_
      rintro e w10 ⟨rfl, hb10⟩
      have D10 := D9.trans (hb10.mono D9.size)
      have HX10 := Lib.hid (keepBel hb10 HX9.out)
      have OW10 := own_below OW9 hb10
      have OB10 := own_below OB9 hb10
      have OI10 := own_below OI9 hb10
      have OG10 := own_below OG9 hb10
      clear OW9 OB9 OI9 OG9 HX9
      go_wp2_with fail
      refine (toBoolS_own ag n cg G _ (hG.below D10) (by omega)).mono ?_
      rintro e w11 ⟨v11, rfl, OC11, ⟨a11, c11, rfl⟩, hb11⟩
      have D11 := D10.trans (hb11.mono D10.size)
      have HX11 := Lib.hid (keepBel hb11 HX10.out)
      have OW11 := own_below OW10 hb11
      have OB11 := own_below OB10 hb11
      have OI11 := own_below OI10 hb11
      have OG11 := own_below OG10 hb11
      clear OW10 OB10 OI10 OG10 HX10
      go_wp2_with fail
      refine (eqBoolS_calls _ _ _ _ _ _ _ (RdB_own OB11) (RdB_own OC11)).mono ?_
      rintro e w12 ⟨rfl, hb12⟩
      have D12 := D11.trans (hb12.mono D11.size)
      have HX12 := Lib.hid (keepBel hb12 HX11.out)
      have OW12 := own_below OW11 hb12
      have OB12 := own_below OB11 hb12
      have OI12 := own_below OI11 hb12
      have OG12 := own_below OG11 hb12
      clear OW11 OB11 OI11 OG11 OC11 HX11
      go_wp2_with fail
      refine (toIntS_own at' m ct T _ (hT.below D12) (by omega)).mono ?_
      rintro e w13 ⟨v13, rfl, OC13, ⟨a13, c13, rfl⟩, hb13⟩
      have D13 := D12.trans (hb13.mono D12.size)
      have HX13 := Lib.hid (keepBel hb13 HX12.out)
      have OW13 := own_below OW12 hb13
      have OB13 := own_below OB12 hb13
      have OI13 := own_below OI12 hb13
      have OG13 := own_below OG12 hb13
      clear OW12 OB12 OI12 OG12 HX12
      go_wp2_with fail
      refine (eqIntS_calls _ _ _ _ _ _ _ (RdI_own OI13) (RdI_own OC13)).mono ?_
      rintro e w14 ⟨rfl, hb14⟩
      have D14 := D13.trans (hb14.mono D13.size)
      have HX14 := Lib.hid (keepBel hb14 HX13.out)
      have OW14 := own_below OW13 hb14
      have OB14 := own_below OB13 hb14
      have OI14 := own_below OI13 hb14
      have OG14 := own_below OG13 hb14
      clear OW13 OB13 OI13 OG13 OC13 HX13
      have xlt : w.heap.size < w1.heap.size := (Array.getElem?_eq_some_iff.1 HX1'.out).1
      go_wp2_with fail
      refine (markBoolS_calls 1 _ OB14 (by omega) (by omega) (by omega)).mono ?_
      rintro e w15 ⟨rfl, G15⟩
      have D15 : Below w.heap.size w w15 := D14.grown G15 D14.size (fun q hq => by have := blt q hq; omega)
      have HX15 := Lib.hid ((G15.block _ (Array.getElem?_eq_some_iff.1 HX14.out).1 (fun e => by have := blt _ e.symm; omega)).trans HX14.out)
      have OW15 := own_grown OW14 G15 (fun q hq e => by have := wlt q e; have := blt q hq; omega)
      have OI15 := own_grown OI14 G15 (fun q hq e => by have := blt q hq; have := ilt q e; omega)
      have OG15 := own_grown OG14 G15 (fun q hq e => by have := blt q hq; have := glt q e; omega)
      clear OW14 OB14 OI14 OG14 HX14 G15
      go_wp2_with fail
      refine (markIntS_calls (1 + (n : Int)) _ OI15 (by omega) (by omega) (by omega)).mono ?_
      rintro e w16 ⟨rfl, _, G16⟩
      have D16 : Below w.heap.size w w16 := D15.grown G16 D15.size (fun q hq => by have := ilt q hq; omega)
      have HX16 := Lib.hid ((G16.block _ (Array.getElem?_eq_some_iff.1 HX15.out).1 (fun e => by have := ilt _ e.symm; omega)).trans HX15.out)
      have OW16 := own_grown OW15 G16 (fun q hq e => by have := wlt q e; have := ilt q hq; omega)
      have OG16 := own_grown OG15 G16 (fun q hq e => by have := ilt q hq; have := glt q e; omega)
      clear OW15 OI15 OG15 HX15 G16
      go_wp2_with fail
      refine (eqIntS_calls _ _ _ _ _ _ _ (RdI_of_ownL rfl OG16) (RdI_of_ownL rfl OW16)).mono ?_
      rintro e w17 ⟨rfl, hb17⟩
      have D17 := D16.trans (hb17.mono D16.size)
      have HX17 := Lib.hid (keepBel hb17 HX16.out)
      have OW17 := own_below OW16 hb17
      have OG17 := own_below OG16 hb17
      clear OW16 OG16 HX16
      go_wp2_with fail
      refine (markIntS_calls 1 _ OG17 (by omega) (by omega) (by omega)).mono ?_
      rintro e w18 ⟨rfl, OM18, G18⟩
      have D18 : Below w.heap.size w w18 := D17.grown G18 D17.size (fun q hq => by have := glt q hq; omega)
      have HX18 := Lib.hid ((G18.block _ (Array.getElem?_eq_some_iff.1 HX17.out).1 (fun e => by have := glt _ e.symm; omega)).trans HX17.out)
      have OW18 := own_grown OW17 G18 (fun q hq e => by have := wlt q e; have := glt q hq; omega)
      clear OW17 OG17 HX17 G18
      go_wp2_with fail
      refine (heldIntS_calls 1 _ OM18 (by omega) (by omega) (by omega)).mono ?_
      rintro e w19 ⟨rfl, hb19⟩
      have D19 := D18.trans (hb19.mono D18.size)
      have X19 := keepBel hb19 HX18.out
      have OW19 := own_below OW18 hb19
      have OM19 := own_below OM18 hb19
      have HX19 := Lib.hid X19
      obtain ⟨x0, x1, x2, x3, x4, _, _, _, _, _⟩ := blk5 X19
      clear X19 OW18 OM18 HX18
      go_wp2_with fail
      refine (toBreaker_calls b _).mono ?_
      rintro e w20 ⟨rfl, hb20⟩
      have D20 := D19.trans (hb20.mono D19.size)
      have OW20 := own_below OW19 hb20
      have OM20 := own_below OM19 hb20
      clear x0 x1 x2 x3 x4 HX19 OW19 OM19
      go_wp2_with fail
      refine (toBoolS_own ag n cg G _ (hG.below D20) (by omega)).mono ?_
      rintro e w21 ⟨v21, rfl, OB21, ⟨a21, c21, rfl⟩, hb21⟩
      have D21 := D20.trans (hb21.mono D20.size)
      have OW21 := own_below OW20 hb21
      have OM21 := own_below OM20 hb21
      clear OW20 OM20
      go_wp2_with fail
      refine (toIntS_own at' m ct T _ (hT.below D21) (by omega)).mono ?_
      rintro e w22 ⟨v22, rfl, OI22, ⟨a22, c22, rfl⟩, hb22⟩
      have D22 := D21.trans (hb22.mono D21.size)
      have OW22 := own_below OW21 hb22
      have OM22 := own_below OM21 hb22
      have OB22 := own_below OB21 hb22
      clear OW21 OM21 OB21
      go_wp2_with fail
      refine (HI.out _ _ _ _ _ (RdB_own OB22) (RdI_own OI22)).mono ?_
      rintro e w23 ⟨ah, ch, rfl, OH23, hb23⟩
      have D23 := D22.trans (hb23.mono D22.size)
      have OW23 := own_below OW22 hb23
      have OM23 := own_below OM22 hb23
      clear OW22 OM22 OB22 OI22
      go_wp2_with fail
      refine (eqIntS_calls _ _ _ _ _ _ _ (RdI_of_ownL rfl OH23) (RdI_of_ownL rfl OW23)).mono ?_
      rintro e w24 ⟨rfl, hb24⟩
      have D24 := D23.trans (hb24.mono D23.size)
      have OM24 := own_below OM23 hb24
      clear OW23 OM23 OH23
      go_wp2_with fail
      refine (heldIntS_calls 1 _ OM24 (by omega) (by omega) (by omega)).mono ?_
      rintro e w25 ⟨rfl, hb25⟩
      have D25 := D24.trans (hb25.mono D24.size)
      clear OM24
      go_wp2
      go_ret
      exact ⟨rfl, D25⟩
end Go.Proofs.Ytcgnaokpdlbhbaa
