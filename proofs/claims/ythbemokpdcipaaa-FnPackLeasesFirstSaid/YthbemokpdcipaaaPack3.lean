/- PackLeases of the program: the comparison, the sort. -/
import Derived.Test.YthbemokpdcipaaaPack2
namespace Go.Proofs.Ythbemokpdcipaaa
open Go.ChangeShapes Go.WideShapes Go.ChangeAt Go.RowKit
set_option linter.unusedVariables false

theorem isNaN_calls (x : Int) (w : World) : Calls Try.prog 66 #[.int .i64 x] w fun e w' => e = .returned (.bool false) ∧ w = w' := by
  go_enter Try.func66, Try.ntmps66
  go_wp2
  go_ret
  exact ⟨ret_bool (by simp), rfl⟩
def cmpI (a b : Int) : Int := if a < b then -1 else if b < a then 1 else 0
theorem Compare_calls (a b : Int) (w : World) : Calls Try.prog 38 #[.int .i64 a, .int .i64 b] w fun e w' => e = .returned (.int .i64 (cmpI a b)) ∧ w = w' := by
  by_cases h1 : a < b
  · go_enter Try.func38, Try.ntmps38
    go_wp2_with (go_at_call 66; refine (isNaN_calls _ _).mono ?_; rintro e w' ⟨rfl, rfl⟩)
    go_ret
    exact ⟨ret_int (by simp [cmpI, h1]), rfl⟩
  · by_cases h2 : b < a
    · have H := Lib.hid (show cmpI a b = 1 by simp [cmpI, h1, h2])
      go_enter Try.func38, Try.ntmps38
      go_wp2_with (go_at_call 66; refine (isNaN_calls _ _).mono ?_; rintro e w' ⟨rfl, rfl⟩)
      go_ret
      exact ⟨ret_int H.out.symm, rfl⟩
    · have H := Lib.hid (show cmpI a b = 0 by simp [cmpI, h1, h2])
      go_enter Try.func38, Try.ntmps38
      go_wp2_with (go_at_call 66; refine (isNaN_calls _ _).mono ?_; rintro e w' ⟨rfl, rfl⟩)
      go_ret
      exact ⟨ret_int H.out.symm, rfl⟩
theorem less_calls (i j g : Nat) (ao : Option Addr) (n cap : Nat) (L : Nat → Lz) (w : World) (hg : w.cell? ⟨g, 0, none⟩ = some (.slice ao n cap)) (h : RdL w ao n cap L) (hi : i < n) (hj : j < n) :
    Calls Try.prog 37 #[.int .i64 i, .int .i64 j, .pointer (some ⟨g, 0, none⟩)] w fun e w' => e = .returned (.int .i64 (cmpI (L i).frm (L j).frm)) ∧ ∃ m, w' = w.drewN m := by
  have hlen := h.len
  obtain ⟨b, off, rfl, hb, hc⟩ := h.pos (by omega)
  obtain ⟨_, _, c2, _⟩ := hc i hi
  obtain ⟨_, _, d2, _⟩ := hc j hj
  have i0 : (i : Int) < (n : Int) := by omega
  have i1 : (j : Int) < (n : Int) := by omega
  clear hc
  go_enter Try.func37, Try.ntmps37
  go_wp2
  go_quiet ((go_at_call 38; exact quiet_left (Compare_calls _ _ _)))
  go_wp2
  go_ret
  exact ⟨rfl, _, rfl⟩
end Go.Proofs.Ythbemokpdcipaaa
