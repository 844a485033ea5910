/- Wishes as plain functions, and what holds of them. -/
import Derived.Test.YtmabhoglnapgdaaPure
namespace Go.Proofs.Ytmabhoglnapgdaa
open Go.RowKit
set_option linter.unusedVariables false

structure Wi where
  at_ : Int
  hold : Int
  pat : Int
deriving Inhabited

def lastA (L : Nat → Wi) : Nat → Int
  | 0 => 0
  | k + 1 => (L k).at_
def okW (L : Nat → Wi) : Nat → Bool
  | 0 => true
  | k + 1 => okW L k && inB (lastA L k) 1000 (L k).at_ && inB 1 100 (L k).hold && inB 0 100 (L k).pat
def vW (L : Nat → Wi) (n : Nat) : Bool := okW L n && decide (n ≤ 12)

theorem okW_le {L : Nat → Wi} {n : Nat} (h : okW L n = true) : ∀ k, k ≤ n → okW L k = true := by
  induction n with
  | zero => intro k hk; obtain rfl : k = 0 := by omega
            exact h
  | succ n ih =>
    intro k hk
    by_cases e : k = n + 1
    · subst e; exact h
    · simp only [okW, Bool.and_eq_true] at h
      exact ih h.1.1.1 k (by omega)
theorem okW_at {L : Nat → Wi} {n : Nat} (h : okW L n = true) (k : Nat) (hk : k < n) : lastA L k ≤ (L k).at_ ∧ (L k).at_ ≤ 1000 ∧ 1 ≤ (L k).hold ∧ (L k).hold ≤ 100 ∧ 0 ≤ (L k).pat ∧ (L k).pat ≤ 100 := by
  have := okW_le h (k + 1) hk
  simp only [okW, Bool.and_eq_true] at this
  have h1 := inB_yes this.1.1.2
  have h2 := inB_yes this.1.2
  have h3 := inB_yes this.2
  omega
theorem lastA_nonneg {L : Nat → Wi} {n : Nat} (h : okW L n = true) : ∀ k, k ≤ n → 0 ≤ lastA L k := by
  intro k
  induction k with
  | zero => intro _; simp [lastA]
  | succ k ih => intro hk; have := (okW_at h k (by omega)).1; have := ih (by omega); simp [lastA]; omega
theorem okW_facts {L : Nat → Wi} {n : Nat} (h : okW L n = true) (k : Nat) (hk : k < n) : 0 ≤ (L k).at_ ∧ (L k).at_ ≤ 1000 ∧ 1 ≤ (L k).hold ∧ (L k).hold ≤ 100 ∧ 0 ≤ (L k).pat ∧ (L k).pat ≤ 100 := by
  have h1 := okW_at h k hk
  have h2 := lastA_nonneg h k (by omega)
  omega
theorem okW_all {L : Nat → Wi} {n : Nat} : okW L n = true ↔ ∀ k, k < n → lastA L k ≤ (L k).at_ ∧ (L k).at_ ≤ 1000 ∧ 1 ≤ (L k).hold ∧ (L k).hold ≤ 100 ∧ 0 ≤ (L k).pat ∧ (L k).pat ≤ 100 := by
  refine ⟨fun h k hk => okW_at h k hk, fun h => ?_⟩
  induction n with
  | zero => rfl
  | succ n ih =>
    simp only [okW, Bool.and_eq_true]
    have := h n (by omega)
    exact ⟨⟨⟨ih (fun k hk => h k (by omega)), inB_mk (by omega)⟩, inB_mk (by omega)⟩, inB_mk (by omega)⟩
theorem okW_congr {L M : Nat → Wi} {n : Nat} (h : ∀ k, k < n → L k = M k) : okW L n = okW M n := by
  induction n with
  | zero => rfl
  | succ n ih =>
    have e : lastA L n = lastA M n := by cases n with
      | zero => rfl
      | succ n => simp [lastA, h n (by omega)]
    simp only [okW, ih (fun k hk => h k (by omega)), h n (by omega), e]

/-! ### Serving -/
/-- Of the first k connections the first one that is free first. -/
def soon (f : Nat → Int) : Nat → Nat
  | 0 => 0
  | k + 1 => if f k < f (soon f k) then k else soon f k
theorem soon_lt (f : Nat → Int) : ∀ m, 0 < m → soon f m < m := by
  intro m
  induction m with
  | zero => omega
  | succ m ih =>
    intro _
    simp only [soon]
    split
    · omega
    · rcases Nat.eq_zero_or_pos m with rfl | h
      · simp [soon]
      · have := ih h; omega
theorem soon_min (f : Nat → Int) : ∀ m c, c < m → f (soon f m) ≤ f c := by
  intro m
  induction m with
  | zero => intro c hc; omega
  | succ m ih =>
    intro c hc
    simp only [soon]
    split
    · rename_i h
      by_cases e : c = m
      · subst e; omega
      · have := ih c (by omega); omega
    · rename_i h
      by_cases e : c = m
      · subst e; omega
      · exact ih c (by omega)
def startW (L : Nat → Wi) (m k : Nat) (f : Nat → Int) : Int := max (L k).at_ (f (soon f m))
def fitsW (L : Nat → Wi) (m k : Nat) (f : Nat → Int) : Bool := decide (startW L m k f ≤ (L k).at_ + (L k).pat)
def fr (L : Nat → Wi) (m : Nat) : Nat → Nat → Int
  | 0 => fun _ => 0
  | k + 1 => fun c => if fitsW L m k (fr L m k) = true ∧ c = soon (fr L m k) m then startW L m k (fr L m k) + (L k).hold else fr L m k c
def outW (L : Nat → Wi) (m k : Nat) : Int := if fitsW L m k (fr L m k) then startW L m k (fr L m k) else -1
theorem fr_congr {L M : Nat → Wi} (m : Nat) {n : Nat} (h : ∀ k, k < n → L k = M k) : ∀ k, k ≤ n → fr L m k = fr M m k := by
  intro k
  induction k with
  | zero => intro _; rfl
  | succ k ih =>
    intro hk
    have e := ih (by omega)
    have e2 := h k (by omega)
    funext c
    have hs : startW L m k (fr L m k) = startW M m k (fr M m k) := by unfold startW; rw [e, e2]
    have hf : fitsW L m k (fr L m k) = fitsW M m k (fr M m k) := by unfold fitsW; rw [hs, e2]
    rw [fr, fr, hf, hs, e2, e]
theorem outW_congr {L M : Nat → Wi} (m : Nat) {n : Nat} (h : ∀ k, k < n → L k = M k) (k : Nat) (hk : k < n) : outW L m k = outW M m k := by
  have e := fr_congr m h k (by omega)
  have e2 := h k hk
  have hs : startW L m k (fr L m k) = startW M m k (fr M m k) := by unfold startW; rw [e, e2]
  have hf : fitsW L m k (fr L m k) = fitsW M m k (fr M m k) := by unfold fitsW; rw [hs, e2]
  rw [outW, outW, hf, hs]
theorem fr_bounds {L : Nat → Wi} {n : Nat} (h : okW L n = true) (m : Nat) : ∀ k, k ≤ n → ∀ c, 0 ≤ fr L m k c ∧ fr L m k c ≤ 1200 := by
  intro k
  induction k with
  | zero => intro _ c; simp [fr]
  | succ k ih =>
    intro hk c
    have h1 := okW_facts h k (by omega)
    have h2 := ih (by omega)
    simp only [fr]
    split
    · rename_i hf
      have h3 := hf.1
      simp only [fitsW, decide_eq_true_eq] at h3
      have h4 : (L k).at_ ≤ startW L m k (fr L m k) := by unfold startW; omega
      omega
    · exact h2 c
theorem outW_facts {L : Nat → Wi} {n : Nat} (h : okW L n = true) (m k : Nat) (hk : k < n) : outW L m k = -1 ∨ ((L k).at_ ≤ outW L m k ∧ outW L m k ≤ (L k).at_ + (L k).pat) := by
  unfold outW
  split
  · rename_i hf
    simp only [fitsW, decide_eq_true_eq] at hf
    right
    refine ⟨?_, hf⟩
    unfold startW; omega
  · exact .inl rfl
theorem outW_bounds {L : Nat → Wi} {n : Nat} (h : okW L n = true) (m k : Nat) (hk : k < n) : -1 ≤ outW L m k ∧ outW L m k ≤ 1100 := by
  have h1 := okW_facts h k hk
  rcases outW_facts h m k hk with h2 | h2 <;> omega
theorem outW_neg {L : Nat → Wi} {n : Nat} (h : okW L n = true) (m k : Nat) (hk : k < n) : outW L m k < 0 ↔ outW L m k = -1 := by
  have h1 := okW_facts h k hk
  rcases outW_facts h m k hk with h2 | h2 <;> omega
theorem outW_first {L : Nat → Wi} {n : Nat} (h : okW L n = true) (m : Nat) (hn : 0 < n) : outW L m 0 = (L 0).at_ := by
  have h1 := okW_facts h 0 hn
  have e : startW L m 0 (fr L m 0) = (L 0).at_ := by simp only [startW, fr]; omega
  unfold outW fitsW
  rw [e]
  simp; omega

/-! ### Counts -/
def cntW (L : Nat → Wi) (m : Nat) : Nat → Nat
  | 0 => 0
  | k + 1 => cntW L m k + if 0 ≤ outW L m k then 1 else 0
theorem cntW_le (L : Nat → Wi) (m k : Nat) : cntW L m k ≤ k := by
  induction k with
  | zero => simp [cntW]
  | succ k ih => simp only [cntW]; split <;> omega
theorem cntW_all {L : Nat → Wi} {m n : Nat} : cntW L m n = n ↔ ∀ k, k < n → 0 ≤ outW L m k := by
  induction n with
  | zero => simp [cntW]
  | succ n ih =>
    have := cntW_le L m n
    simp only [cntW]
    constructor
    · intro h k hk
      split at h
      · rename_i h0
        by_cases e : k = n
        · subst e; exact h0
        · exact ih.1 (by omega) k (by omega)
      · omega
    · intro h
      rw [if_pos (h n (by omega)), ih.2 (fun k hk => h k (by omega))]
theorem cntW_congr {L M : Nat → Wi} (m : Nat) {n : Nat} (h : ∀ k, k < n → L k = M k) : ∀ k, k ≤ n → cntW L m k = cntW M m k := by
  intro k
  induction k with
  | zero => intro _; rfl
  | succ k ih => intro hk; simp only [cntW, ih (by omega), outW_congr m h k (by omega)]
theorem cntW_mono (L : Nat → Wi) (m : Nat) : ∀ k j, k ≤ j → cntW L m k ≤ cntW L m j := by
  intro k j h
  induction j with
  | zero => obtain rfl : k = 0 := by omega
            exact Nat.le_refl _
  | succ j ih =>
    by_cases e : k = j + 1
    · subst e; exact Nat.le_refl _
    · have := ih (by omega); simp only [cntW]; omega
theorem cntW_pos {L : Nat → Wi} {n : Nat} (h : okW L n = true) (m : Nat) (hn : 0 < n) : 1 ≤ cntW L m n := by
  have h1 := cntW_mono L m 1 n hn
  have h2 := outW_first h m hn
  have h3 := okW_facts h 0 hn
  have : cntW L m 1 = 1 := by simp only [cntW, h2]; rw [if_pos (by omega)]
  omega

/-! ### The longest wait -/
def longW (L : Nat → Wi) (m : Nat) : Nat → Int
  | 0 => 0
  | k + 1 => if 0 ≤ outW L m k then max (longW L m k) (outW L m k - (L k).at_) else longW L m k
theorem longW_nonneg (L : Nat → Wi) (m k : Nat) : 0 ≤ longW L m k := by
  induction k with
  | zero => simp [longW]
  | succ k ih => simp only [longW]; split <;> omega
theorem longW_mono (L : Nat → Wi) (m : Nat) : ∀ k j, k ≤ j → longW L m k ≤ longW L m j := by
  intro k j h
  induction j with
  | zero => obtain rfl : k = 0 := by omega
            exact Int.le_refl _
  | succ j ih =>
    by_cases e : k = j + 1
    · subst e; exact Int.le_refl _
    · have := ih (by omega); simp only [longW]; split <;> omega
theorem longW_ge {L : Nat → Wi} {m n : Nat} (k : Nat) (hk : k < n) (h0 : 0 ≤ outW L m k) : outW L m k - (L k).at_ ≤ longW L m n := by
  have h1 := longW_mono L m (k + 1) n hk
  have h2 : outW L m k - (L k).at_ ≤ longW L m (k + 1) := by simp only [longW, if_pos h0]; omega
  omega
theorem longW_attained {L : Nat → Wi} {m n : Nat} : longW L m n = 0 ∨ ∃ k, k < n ∧ 0 ≤ outW L m k ∧ outW L m k = (L k).at_ + longW L m n := by
  induction n with
  | zero => left; rfl
  | succ n ih =>
    simp only [longW]
    split
    · rename_i h0
      by_cases hle : outW L m n - (L n).at_ ≤ longW L m n
      · have e : max (longW L m n) (outW L m n - (L n).at_) = longW L m n := by omega
        rw [e]
        rcases ih with h | ⟨k, h1, h2, h3⟩
        · exact .inl h
        · exact .inr ⟨k, by omega, h2, h3⟩
      · right
        exact ⟨n, by omega, h0, by omega⟩
    · rcases ih with h | ⟨k, h1, h2, h3⟩
      · exact .inl h
      · exact .inr ⟨k, by omega, h2, h3⟩
theorem longW_le {L : Nat → Wi} {n : Nat} (h : okW L n = true) (m : Nat) : ∀ k, k ≤ n → longW L m k ≤ 100 := by
  intro k
  induction k with
  | zero => intro _; simp [longW]
  | succ k ih =>
    intro hk
    have h1 := ih (by omega)
    have h2 := okW_facts h k (by omega)
    simp only [longW]
    split
    · rcases outW_facts h m k (by omega) with h3 | h3 <;> omega
    · exact h1
theorem longW_congr {L M : Nat → Wi} (m : Nat) {n : Nat} (h : ∀ k, k < n → L k = M k) : ∀ k, k ≤ n → longW L m k = longW M m k := by
  intro k
  induction k with
  | zero => intro _; rfl
  | succ k ih => intro hk; simp only [longW, ih (by omega), outW_congr m h k (by omega), h k (by omega)]
theorem longW_one {L : Nat → Wi} {n : Nat} (h : okW L n = true) (m : Nat) (hn : 0 < n) : longW L m 1 = 0 := by
  have h2 := outW_first h m hn
  have h3 := okW_facts h 0 hn
  simp only [longW, h2]
  rw [if_pos (by omega)]; omega

/-! ### At most so many at once -/
/-- How many of the first m are busy beyond T. -/
def busyW (f : Nat → Int) (T : Int) : Nat → Nat
  | 0 => 0
  | m + 1 => busyW f T m + if T < f m then 1 else 0
theorem busyW_le (f : Nat → Int) (T : Int) (m : Nat) : busyW f T m ≤ m := by
  induction m with
  | zero => simp [busyW]
  | succ m ih => simp only [busyW]; split <;> omega
/-- One connection's time turned. -/
theorem busyW_set (f g : Nat → Int) (T : Int) (c : Nat) (hg : ∀ x, x ≠ c → g x = f x) : ∀ m, (m ≤ c → busyW g T m = busyW f T m) ∧ (c < m → busyW g T m + (if T < f c then 1 else 0) = busyW f T m + if T < g c then 1 else 0) := by
  intro m
  induction m with
  | zero => simp [busyW]
  | succ m ih =>
    refine ⟨fun h => ?_, fun h => ?_⟩
    · simp only [busyW, ih.1 (by omega), hg m (by omega)]
    · by_cases e : c = m
      · subst e
        simp only [busyW, ih.1 (Nat.le_refl _)]
        omega
      · simp only [busyW, hg m (by omega)]
        have := ih.2 (by omega)
        omega
def actW (L : Nat → Wi) (m : Nat) (T : Int) : Nat → Nat
  | 0 => 0
  | k + 1 => actW L m T k + if 0 ≤ outW L m k ∧ outW L m k ≤ T ∧ T < outW L m k + (L k).hold then 1 else 0
theorem actW_busy {L : Nat → Wi} {n : Nat} (h : okW L n = true) (m : Nat) (hm : 0 < m) (T : Int) : ∀ k, k ≤ n → actW L m T k ≤ busyW (fr L m k) T m := by
  intro k
  induction k with
  | zero => intro _; simp [actW]
  | succ k ih =>
    intro hk
    have h1 := ih (by omega)
    have h2 := okW_facts h k (by omega)
    have hc := soon_lt (fr L m k) m hm
    have hb := (busyW_set (fr L m k) (fr L m (k + 1)) T (soon (fr L m k) m) (fun x hx => by simp only [fr]; rw [if_neg (fun hh => hx hh.2)]) m).2 hc
    simp only [actW]
    by_cases hf : fitsW L m k (fr L m k) = true
    · have ho : outW L m k = startW L m k (fr L m k) := by simp [outW, hf]
      have hg : fr L m (k + 1) (soon (fr L m k) m) = startW L m k (fr L m k) + (L k).hold := by simp [fr, hf]
      have hs : fr L m k (soon (fr L m k) m) ≤ startW L m k (fr L m k) := by unfold startW; omega
      rw [hg] at hb
      rw [ho]
      generalize startW L m k (fr L m k) = s at *
      generalize fr L m k (soon (fr L m k) m) = q at *
      split at hb <;> split at hb <;> split <;> omega
    · have hf' : fitsW L m k (fr L m k) = false := by simpa using hf
      have ho : outW L m k = -1 := by simp [outW, hf']
      have hg : fr L m (k + 1) = fr L m k := by funext c; simp only [fr]; rw [if_neg (fun hh => hf hh.1)]
      rw [hg, ho]
      rw [if_neg (by omega)]
      exact h1
theorem actW_le {L : Nat → Wi} {n : Nat} (h : okW L n = true) (m : Nat) (hm : 0 < m) (T : Int) : actW L m T n ≤ m :=
  Nat.le_trans (actW_busy h m hm T n (Nat.le_refl _)) (busyW_le _ _ _)

/-! ### As many as wishes serve all -/
theorem some_zero {f : Nat → Int} {m k : Nat} (h0 : ∀ c, 0 ≤ f c) (hb : busyW f 0 m ≤ k) (hk : k < m) : ∃ c, c < m ∧ f c = 0 := by
  have aux : ∀ m, (∀ c, c < m → 0 < f c) → busyW f 0 m = m := by
    intro m
    induction m with
    | zero => intro _; rfl
    | succ m ih => intro h; simp only [busyW, ih (fun c hc => h c (by omega)), if_pos (h m (by omega))]
  apply Classical.byContradiction
  intro hne
  have : ∀ c, c < m → 0 < f c := by
    intro c hc
    have h1 := h0 c
    have h2 : f c ≠ 0 := fun e => hne ⟨c, hc, e⟩
    omega
  have := aux m this
  omega
theorem busy_count {L : Nat → Wi} {n : Nat} (h : okW L n = true) (m : Nat) (hm : 0 < m) : ∀ k, k ≤ n → busyW (fr L m k) 0 m ≤ k := by
  intro k
  induction k with
  | zero =>
    intro _
    have : ∀ m', busyW (fr L m 0) 0 m' = 0 := by
      intro m'
      induction m' with
      | zero => rfl
      | succ m' ih => simp only [busyW, ih]; simp [fr]
    rw [this]; exact Nat.le_refl _
  | succ k ih =>
    intro hk
    have h1 := ih (by omega)
    have hc := soon_lt (fr L m k) m hm
    have hb := (busyW_set (fr L m k) (fr L m (k + 1)) 0 (soon (fr L m k) m) (fun x hx => by simp only [fr]; rw [if_neg (fun hh => hx hh.2)]) m).2 hc
    split at hb <;> split at hb <;> omega
theorem all_served {L : Nat → Wi} {n : Nat} (h : okW L n = true) (m : Nat) (hm : n ≤ m) (hm0 : 0 < m) : cntW L m n = n := by
  rw [cntW_all]
  intro k hk
  have h1 := okW_facts h k hk
  obtain ⟨c, hc, hz⟩ := some_zero (fun c => (fr_bounds h m k (by omega) c).1) (busy_count h m hm0 k (by omega)) (by omega)
  have h2 := soon_min (fr L m k) m c hc
  have h3 := (fr_bounds h m k (by omega) (soon (fr L m k) m)).1
  have e : startW L m k (fr L m k) = (L k).at_ := by unfold startW; omega
  unfold outW fitsW
  rw [e, if_pos (by simp; omega)]
  omega

/-! ### ConnsFor -/
def cfW (L : Nat → Wi) (n : Nat) : Nat → Int   -- looking from the 6th downwards: the least m in (6-d)+1..6 that serves all
  | 0 => -1
  | d + 1 => if cntW L (6 - d) n = n then ((6 - d : Nat) : Int) else cfW L n d
def connsFor (L : Nat → Wi) (n : Nat) : Int := if vW L n then cfW L n 6 else -1
theorem cfW_cases (L : Nat → Wi) (n : Nat) : ∀ d, d ≤ 6 → (cfW L n d = -1 ∧ ∀ m, 6 - d < m → m ≤ 6 → cntW L m n ≠ n) ∨ (∃ m : Nat, 6 - d < m ∧ m ≤ 6 ∧ cfW L n d = (m : Int) ∧ cntW L m n = n ∧ ∀ j, 6 - d < j → j < m → cntW L j n ≠ n) := by
  intro d
  induction d with
  | zero => intro _; left; exact ⟨rfl, fun m h1 h2 => by omega⟩
  | succ d ih =>
    intro hd
    simp only [cfW]
    split
    · rename_i hc
      right
      exact ⟨6 - d, by omega, by omega, rfl, hc, fun j h1 h2 => by omega⟩
    · rename_i hc
      rcases ih (by omega) with ⟨h1, h2⟩ | ⟨m, h1, h2, h3, h4, h5⟩
      · left
        refine ⟨h1, fun m a b => ?_⟩
        by_cases e : m = 6 - d
        · subst e; exact hc
        · exact h2 m (by omega) b
      · right
        refine ⟨m, by omega, h2, h3, h4, fun j a b => ?_⟩
        by_cases e : j = 6 - d
        · subst e; exact hc
        · exact h5 j (by omega) b
theorem connsFor_cases (L : Nat → Wi) (n : Nat) (hv : vW L n = true) : (connsFor L n = -1 ∧ ∀ m, 0 < m → m ≤ 6 → cntW L m n ≠ n) ∨ (∃ m : Nat, 0 < m ∧ m ≤ 6 ∧ connsFor L n = (m : Int) ∧ cntW L m n = n ∧ ∀ j, 0 < j → j < m → cntW L j n ≠ n) := by
  unfold connsFor
  rw [hv]
  simpa using cfW_cases L n 6 (Nat.le_refl _)
end Go.Proofs.Ytmabhoglnapgdaa
