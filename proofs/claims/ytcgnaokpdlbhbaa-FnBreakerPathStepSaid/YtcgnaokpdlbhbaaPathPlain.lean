/- BreakerPath as a plain function, and what it keeps. -/
import Derived.Test.YtcgnaokpdlbhbaaBreakerLaws3
namespace Go.Proofs.Ytcgnaokpdlbhbaa
open Go.ChangeShapes Go.WideShapes Go.ChangeAt Go.RowKit
set_option linter.unusedVariables false

theorem end_facts' {b : Bk} {g : Bool} {t : Int} (hv : vB b = true) (h0 : b.since ≤ t) (h1 : t ≤ 1000) : vB (endB b g t) = true ∧ (endB b g t).since ≤ t := by
  have hf := vB_facts hv
  unfold endB
  by_cases s1 : b.state = 1
  · rw [if_pos s1]; exact ⟨hv, h0⟩
  · rw [if_neg s1]
    by_cases s2 : b.state = 2
    · rw [if_pos s2]
      cases g
      · exact ⟨turn_valid hv h0 h1 1 (by omega), by simp [turnB]⟩
      · exact ⟨turn_valid hv h0 h1 0 (by omega), by simp [turnB]⟩
    · rw [if_neg s2]
      cases g
      · simp only [Bool.false_eq_true, if_false]
        by_cases l : b.fails + 1 = b.limit
        · rw [if_pos l]; exact ⟨turn_valid hv h0 h1 1 (by omega), by simp [turnB]⟩
        · rw [if_neg l]; exact ⟨vB_mk (by simp; omega), h0⟩
      · simp only [if_true]
        exact ⟨vB_mk (by simp; omega), h0⟩
theorem begin_facts' {b : Bk} {t : Int} (hv : vB b = true) (h0 : b.since ≤ t) (h1 : t ≤ 1000) : vB (beginB b t) = true ∧ (beginB b t).since ≤ t := by
  unfold beginB
  by_cases s1 : b.state = 1
  · rw [if_pos s1]; exact ⟨turn_valid hv h0 h1 2 (by omega), by simp [turnB]⟩
  · rw [if_neg s1]; exact ⟨hv, h0⟩

def stepB (b : Bk) (g : Bool) (t : Int) : Bk := if letsB b t then endB (beginB b t) g t else b
theorem step_facts {b : Bk} {g : Bool} {t : Int} (hv : vB b = true) (h0 : b.since ≤ t) (h1 : t ≤ 1000) : vB (stepB b g t) = true ∧ (stepB b g t).since ≤ t := by
  unfold stepB
  split
  · have := begin_facts' hv h0 h1
    exact end_facts' this.1 this.2 h1
  · exact ⟨hv, h0⟩

def lastT (s : Int) (T : Nat → Int) : Nat → Int
  | 0 => s
  | k + 1 => T k
def okTo (s : Int) (T : Nat → Int) : Nat → Bool
  | 0 => true
  | k + 1 => okTo s T k && inB (lastT s T k) 1000 (T k)
def stB (b : Bk) (G : Nat → Bool) (T : Nat → Int) : Nat → Bk
  | 0 => b
  | k + 1 => stepB (stB b G T k) (G k) (T k)
theorem okTo_le {s : Int} {T : Nat → Int} {n : Nat} (h : okTo s T n = true) : ∀ k, k ≤ n → okTo s T k = true := by
  induction n with
  | zero => intro k hk; obtain rfl : k = 0 := by omega
            exact h
  | succ n ih =>
    intro k hk
    simp only [okTo, Bool.and_eq_true] at h
    by_cases e : k = n + 1
    · subst e; simp only [okTo, Bool.and_eq_true]; exact h
    · exact ih h.1 k (by omega)
theorem okTo_at {s : Int} {T : Nat → Int} {n : Nat} (h : okTo s T n = true) (k : Nat) (hk : k < n) : lastT s T k ≤ T k ∧ T k ≤ 1000 := by
  have := okTo_le h (k + 1) hk
  simp only [okTo, Bool.and_eq_true] at this
  exact inB_yes this.2
theorem okTo_all {s : Int} {T : Nat → Int} {n : Nat} : okTo s T n = true ↔ ∀ k, k < n → lastT s T k ≤ T k ∧ T k ≤ 1000 := by
  refine ⟨fun h k hk => okTo_at h k hk, fun h => ?_⟩
  induction n with
  | zero => rfl
  | succ n ih =>
    simp only [okTo, Bool.and_eq_true]
    exact ⟨ih (fun k hk => h k (by omega)), inB_mk (h n (by omega))⟩
/-- The reference's two tests. -/
theorem okTo_spec {s : Int} {T : Nat → Int} {n : Nat} : okTo s T n = true ↔ (∀ k, k < n → s ≤ T k ∧ T k ≤ 1000) ∧ (∀ k, 0 < k → k < n → T (k - 1) ≤ T k) := by
  rw [okTo_all]
  constructor
  · intro h
    have h1 : ∀ k, k < n → s ≤ T k := by
      intro k
      induction k with
      | zero => intro hk; exact (h 0 hk).1
      | succ k ih => intro hk; have := (h (k + 1) hk).1; have := ih (by omega); simp [lastT] at *; omega
    refine ⟨fun k hk => ⟨h1 k hk, (h k hk).2⟩, fun k h0 hk => ?_⟩
    cases k with
    | zero => omega
    | succ k => exact (h (k + 1) hk).1
  · intro ⟨h1, h2⟩ k hk
    refine ⟨?_, (h1 k hk).2⟩
    cases k with
    | zero => exact (h1 0 hk).1
    | succ k => exact h2 (k + 1) (by omega) hk
theorem stB_facts {b : Bk} {G : Nat → Bool} {T : Nat → Int} {n : Nat} (hv : vB b = true) (h : okTo b.since T n = true) : ∀ k, k ≤ n → vB (stB b G T k) = true ∧ (stB b G T k).since ≤ lastT b.since T k := by
  intro k
  induction k with
  | zero => intro _; exact ⟨hv, Int.le_refl _⟩
  | succ k ih =>
    intro hk
    have hk' := ih (by omega)
    have ht := okTo_at h k (by omega)
    exact step_facts hk'.1 (by omega) ht.2

def validP (b : Bk) (n m : Nat) (T : Nat → Int) : Bool := vB b && decide (n ≤ 12) && decide (n = m) && okTo b.since T n
def pathB (b : Bk) (n m : Nat) (G : Nat → Bool) (T : Nat → Int) : List Int := if validP b n m T then (List.range n).map fun i => (stB b G T (i + 1)).state else []
theorem pathB_bad {b : Bk} {n m : Nat} {G : Nat → Bool} {T : Nat → Int} (h : validP b n m T = false) : pathB b n m G T = [] := by simp [pathB, h]
theorem pathB_good {b : Bk} {n m : Nat} {G : Nat → Bool} {T : Nat → Int} (h : validP b n m T = true) : pathB b n m G T = (List.range n).map fun i => (stB b G T (i + 1)).state := by simp [pathB, h]
theorem pathB_len {b : Bk} {n m : Nat} {G : Nat → Bool} {T : Nat → Int} : (pathB b n m G T).length ≤ n := by unfold pathB; split <;> simp
end Go.Proofs.Ytcgnaokpdlbhbaa
