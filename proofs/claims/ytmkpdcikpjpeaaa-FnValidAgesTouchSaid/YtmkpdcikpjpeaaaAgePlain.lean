/- Ages as plain functions, and what holds of them. -/
import Derived.Test.YtmkpdcikpjpeaaaPure
namespace Go.Proofs.Ytmkpdcikpjpeaaa
open Go.RowKit
set_option linter.unusedVariables false

structure Ag where
  born : Int
  used : Int
deriving Inhabited

def okA1 (x : Ag) : Bool := inB 0 1000 x.born && inB x.born 1000 x.used
def okA (L : Nat → Ag) : Nat → Bool
  | 0 => true
  | k + 1 => okA L k && okA1 (L k)
def vA (L : Nat → Ag) (n : Nat) : Bool := decide (n ≤ 6) && okA L n
theorem okA_all {L : Nat → Ag} {n : Nat} : okA L n = true ↔ ∀ k, k < n → okA1 (L k) = true := by
  induction n with
  | zero => simp [okA]
  | succ n ih =>
    simp only [okA, Bool.and_eq_true, ih]
    constructor
    · intro ⟨h1, h2⟩ k hk
      by_cases e : k = n
      · subst e; exact h2
      · exact h1 k (by omega)
    · intro h
      exact ⟨fun k hk => h k (by omega), h n (by omega)⟩
theorem okA1_facts {x : Ag} (h : okA1 x = true) : 0 ≤ x.born ∧ x.born ≤ 1000 ∧ x.born ≤ x.used ∧ x.used ≤ 1000 := by
  simp only [okA1, Bool.and_eq_true] at h
  have h1 := inB_yes h.1
  have h2 := inB_yes h.2
  omega
theorem okA1_mk {x : Ag} (h : 0 ≤ x.born ∧ x.born ≤ 1000 ∧ x.born ≤ x.used ∧ x.used ≤ 1000) : okA1 x = true := by
  simp only [okA1, Bool.and_eq_true]
  exact ⟨inB_mk (by omega), inB_mk (by omega)⟩
theorem vA_facts {L : Nat → Ag} {n : Nat} (h : vA L n = true) : n ≤ 6 ∧ ∀ k, k < n → 0 ≤ (L k).born ∧ (L k).born ≤ 1000 ∧ (L k).born ≤ (L k).used ∧ (L k).used ≤ 1000 := by
  simp only [vA, Bool.and_eq_true, decide_eq_true_eq] at h
  exact ⟨h.1, fun k hk => okA1_facts (okA_all.1 h.2 k hk)⟩
theorem vA_mk {L : Nat → Ag} {n : Nat} (h0 : n ≤ 6) (h : ∀ k, k < n → 0 ≤ (L k).born ∧ (L k).born ≤ 1000 ∧ (L k).born ≤ (L k).used ∧ (L k).used ≤ 1000) : vA L n = true := by
  simp only [vA, Bool.and_eq_true, decide_eq_true_eq]
  exact ⟨h0, okA_all.2 fun k hk => okA1_mk (h k hk)⟩

def lifeOf (c : Nat) (life : Int) : Int := life - life * ((c * 7 % 10 : Nat) : Int) / 50
theorem lifeOf_facts {c : Nat} {life : Int} (hc : c < 6) (h1 : 1 ≤ life) (h2 : life ≤ 1000) : 1 ≤ lifeOf c life ∧ lifeOf c life ≤ life := by
  have : c = 0 ∨ c = 1 ∨ c = 2 ∨ c = 3 ∨ c = 4 ∨ c = 5 := by omega
  rcases this with rfl | rfl | rfl | rfl | rfl | rfl <;> (simp only [lifeOf]; simp; omega)
theorem lifeOf_mono {c : Nat} {life : Int} (hc : c < 6) (h1 : 1 ≤ life) (h2 : life ≤ 1000) : lifeOf c life ≤ lifeOf c (life + 1) := by
  have : c = 0 ∨ c = 1 ∨ c = 2 ∨ c = 3 ∨ c = 4 ∨ c = 5 := by omega
  rcases this with rfl | rfl | rfl | rfl | rfl | rfl <;> (simp only [lifeOf]; simp; omega)
theorem lifeOf_zero (life : Int) : lifeOf 0 life = life := by simp [lifeOf]

def endA (x : Ag) (c : Nat) (life rest : Int) : Int := min (x.born + lifeOf c life) (x.used + rest)
def argsA (L : Nat → Ag) (n : Nat) (life rest : Int) : Bool := vA L n && inB 1 1000 life && inB 1 1000 rest
theorem endA_facts {L : Nat → Ag} {n : Nat} {life rest : Int} (h : argsA L n life rest = true) (k : Nat) (hk : k < n) : 1 ≤ endA (L k) k life rest ∧ endA (L k) k life rest ≤ 2000 := by
  simp only [argsA, Bool.and_eq_true] at h
  have h1 := vA_facts h.1.1
  have h2 := inB_yes h.1.2
  have h3 := inB_yes h.2
  have h4 := h1.2 k hk
  have h5 := lifeOf_facts (c := k) (by omega) h2.1 h2.2
  unfold endA; omega

/-! ### EndedConns -/
def endedL (L : Nat → Ag) (now life rest : Int) : Nat → List Int
  | 0 => []
  | k + 1 => endedL L now life rest k ++ if endA (L k) k life rest ≤ now then [(k : Int)] else []
def endedConns (L : Nat → Ag) (n : Nat) (now life rest : Int) : List Int := if vA L n && inB 0 1000 now && inB 1 1000 life && inB 1 1000 rest then endedL L now life rest n else []
theorem endedL_len (L : Nat → Ag) (now life rest : Int) (k : Nat) : (endedL L now life rest k).length ≤ k := by
  induction k with
  | zero => simp [endedL]
  | succ k ih => simp only [endedL, List.length_append]; split <;> simp <;> omega
theorem endedL_mem {L : Nat → Ag} {now life rest : Int} {n : Nat} {x : Int} : x ∈ endedL L now life rest n ↔ ∃ k : Nat, k < n ∧ x = (k : Int) ∧ endA (L k) k life rest ≤ now := by
  induction n with
  | zero => simp [endedL]
  | succ n ih =>
    simp only [endedL, List.mem_append, ih]
    constructor
    · rintro (⟨k, h1, h2, h3⟩ | h)
      · exact ⟨k, by omega, h2, h3⟩
      · split at h
        · rename_i hle
          simp at h
          exact ⟨n, by omega, h, hle⟩
        · simp at h
    · rintro ⟨k, h1, h2, h3⟩
      by_cases e : k = n
      · subst e; right; rw [if_pos h3]; simp [h2]
      · left; exact ⟨k, by omega, h2, h3⟩
theorem endedConns_good {L : Nat → Ag} {n : Nat} {now life rest : Int} (h : argsA L n life rest = true) (h0 : 0 ≤ now) (h1 : now ≤ 1000) : endedConns L n now life rest = endedL L now life rest n := by
  simp only [argsA, Bool.and_eq_true] at h
  unfold endedConns
  rw [h.1.1, h.1.2, h.2, inB_mk ⟨h0, h1⟩]
  rfl

/-! ### NextEnd -/
def nextL (L : Nat → Ag) (life rest : Int) : Nat → Int
  | 0 => -1
  | k + 1 => if nextL L life rest k < 0 ∨ endA (L k) k life rest < nextL L life rest k then endA (L k) k life rest else nextL L life rest k
def nextEnd (L : Nat → Ag) (n : Nat) (life rest : Int) : Int := if argsA L n life rest then nextL L life rest n else -1
theorem nextL_facts {L : Nat → Ag} {n : Nat} {life rest : Int} (h : argsA L n life rest = true) : ∀ k, k ≤ n → (k = 0 ∧ nextL L life rest k = -1) ∨ (0 < k ∧ 1 ≤ nextL L life rest k ∧ (∀ j, j < k → nextL L life rest k ≤ endA (L j) j life rest) ∧ ∃ j, j < k ∧ nextL L life rest k = endA (L j) j life rest) := by
  intro k
  induction k with
  | zero => intro _; left; exact ⟨rfl, rfl⟩
  | succ k ih =>
    intro hk
    right
    have he := endA_facts h k (by omega)
    simp only [nextL]
    rcases ih (by omega) with ⟨h1, h2⟩ | ⟨h1, h2, h3, j, h4, h5⟩
    · subst h1
      rw [if_pos (by omega)]
      refine ⟨by omega, he.1, fun j hj => ?_, 0, by omega, rfl⟩
      obtain rfl : j = 0 := by omega
      exact Int.le_refl _
    · split
      · rename_i hc
        refine ⟨by omega, he.1, fun i hi => ?_, k, by omega, rfl⟩
        by_cases e : i = k
        · subst e; exact Int.le_refl _
        · have := h3 i (by omega); omega
      · rename_i hc
        refine ⟨by omega, h2, fun i hi => ?_, j, by omega, h5⟩
        by_cases e : i = k
        · subst e; omega
        · exact h3 i (by omega)
theorem nextEnd_facts {L : Nat → Ag} {n : Nat} {life rest : Int} (h : argsA L n life rest = true) : (n = 0 ∧ nextEnd L n life rest = -1) ∨ (0 < n ∧ 1 ≤ nextEnd L n life rest ∧ (∀ j, j < n → nextEnd L n life rest ≤ endA (L j) j life rest) ∧ ∃ j, j < n ∧ nextEnd L n life rest = endA (L j) j life rest) := by
  unfold nextEnd
  rw [if_pos h]
  exact nextL_facts h n (Nat.le_refl _)
theorem nextEnd_bad {L : Nat → Ag} {n : Nat} {life rest : Int} (h : argsA L n life rest = false) : nextEnd L n life rest = -1 := by simp [nextEnd, h]
/-- Later ends everywhere: a later first end. -/
theorem nextEnd_mono {L M : Nat → Ag} {n : Nat} {life rest life' rest' : Int} (h : argsA L n life rest = true) (h' : argsA M n life' rest' = true) (hle : ∀ k, k < n → endA (L k) k life rest ≤ endA (M k) k life' rest') : nextEnd L n life rest ≤ nextEnd M n life' rest' := by
  rcases nextEnd_facts h with ⟨h1, h2⟩ | ⟨h1, h2, h3, _⟩
  · rcases nextEnd_facts h' with ⟨g1, g2⟩ | ⟨g1, g2, g3, j, g4, g5⟩ <;> omega
  · rcases nextEnd_facts h' with ⟨g1, g2⟩ | ⟨g1, g2, g3, j, g4, g5⟩
    · omega
    · have := h3 j g4; have := hle j g4; omega

/-! ### TouchConn -/
def touchA (L : Nat → Ag) (conn : Int) (now : Int) : Nat → Ag := fun i => if (i : Int) = conn then ⟨(L i).born, max (L i).used now⟩ else L i
def touchOk (L : Nat → Ag) (n : Nat) (conn now : Int) : Bool := vA L n && inB 0 ((n : Int) - 1) conn && inB 0 1000 now
theorem touch_valid {L : Nat → Ag} {n : Nat} {conn now : Int} (h : touchOk L n conn now = true) : vA (touchA L conn now) n = true := by
  simp only [touchOk, Bool.and_eq_true] at h
  have h1 := vA_facts h.1.1
  have h2 := inB_yes h.2
  refine vA_mk h1.1 fun k hk => ?_
  have h3 := h1.2 k hk
  unfold touchA
  split
  · simp only; omega
  · exact h3
theorem touch_twice (L : Nat → Ag) (conn now : Int) : touchA (touchA L conn now) conn now = touchA L conn now := by
  funext i
  by_cases h : (i : Int) = conn
  · simp [touchA, h, Int.max_assoc]
  · simp [touchA, h]
end Go.Proofs.Ytmkpdcikpjpeaaa
