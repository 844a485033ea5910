/- PackLeases as a plain function, and what holds of it. -/
import Derived.Test.YthbemokpdcipaaaLeasePlain
namespace Go.Proofs.Ythbemokpdcipaaa
open Go.RowKit
set_option linter.unusedVariables false

/-! ### The order -/
def bef (L : Nat → Lz) (i j : Nat) : Prop := (L i).frm < (L j).frm ∨ ((L i).frm = (L j).frm ∧ i < j)
theorem bef_trans {L : Nat → Lz} {a b c : Nat} (h : bef L a b) (h' : bef L b c) : bef L a c := by unfold bef at *; omega
theorem bef_irr {L : Nat → Lz} {a : Nat} : ¬ bef L a a := by unfold bef; omega
theorem bef_total {L : Nat → Lz} {a b : Nat} (h : a ≠ b) : bef L a b ∨ bef L b a := by unfold bef; omega
def insL (L : Nat → Lz) (k : Nat) : List Nat → List Nat
  | [] => [k]
  | x :: l => if (L k).frm < (L x).frm then k :: x :: l else x :: insL L k l
def ordL (L : Nat → Lz) : Nat → List Nat
  | 0 => []
  | k + 1 => insL L k (ordL L k)
theorem insL_perm (L : Nat → Lz) (k : Nat) (l : List Nat) : (insL L k l).Perm (k :: l) := by
  induction l with
  | nil => exact List.Perm.refl _
  | cons x l ih =>
    simp only [insL]
    split
    · exact List.Perm.refl _
    · exact (ih.cons x).trans (List.Perm.swap k x l)
theorem ordL_perm (L : Nat → Lz) (n : Nat) : (ordL L n).Perm (List.range n) := by
  induction n with
  | zero => exact List.Perm.refl _
  | succ n ih =>
    rw [List.range_succ]
    refine (insL_perm L n _).trans ((ih.cons n).trans ?_)
    exact (List.perm_append_comm (l₁ := [n]) (l₂ := List.range n))
theorem ordL_len (L : Nat → Lz) (n : Nat) : (ordL L n).length = n := by
  have := (ordL_perm L n).length_eq; simpa using this
theorem ordL_mem (L : Nat → Lz) (n i : Nat) : i ∈ ordL L n ↔ i < n := by
  have := (ordL_perm L n).mem_iff (a := i); simpa using this
theorem insL_sorted {L : Nat → Lz} {k : Nat} : ∀ {l : List Nat}, l.Pairwise (bef L) → (∀ x ∈ l, x < k) → (insL L k l).Pairwise (bef L) := by
  intro l
  induction l with
  | nil => intro _ _; simp [insL]
  | cons x l ih =>
    intro h hk
    rw [List.pairwise_cons] at h
    have hx := hk x (by simp)
    simp only [insL]
    split
    · rename_i hlt
      refine List.pairwise_cons.2 ⟨fun y hy => ?_, List.pairwise_cons.2 h⟩
      rcases List.mem_cons.1 hy with e | hy
      · subst e; exact .inl hlt
      · exact bef_trans (L := L) (b := x) (.inl hlt) (h.1 y hy)
    · rename_i hge
      refine List.pairwise_cons.2 ⟨fun y hy => ?_, ih h.2 (fun y hy => hk y (by simp [hy]))⟩
      rcases List.mem_cons.1 ((insL_perm L k l).mem_iff.1 hy) with e | hy
      · subst e; unfold bef; omega
      · exact h.1 y hy
theorem ordL_sorted (L : Nat → Lz) (n : Nat) : (ordL L n).Pairwise (bef L) := by
  induction n with
  | zero => exact List.Pairwise.nil
  | succ n ih => exact insL_sorted ih (fun x hx => (ordL_mem L n x).1 hx)
theorem insL_congr {L M : Nat → Lz} (k : Nat) : ∀ (l : List Nat), (L k).frm = (M k).frm → (∀ x ∈ l, (L x).frm = (M x).frm) → insL L k l = insL M k l := by
  intro l
  induction l with
  | nil => intro _ _; rfl
  | cons x l ih =>
    intro h1 h2
    simp only [insL, h1, h2 x (by simp), ih h1 (fun y hy => h2 y (by simp [hy]))]
theorem ordL_congr {L M : Nat → Lz} {n : Nat} (h : ∀ k, k < n → (L k).frm = (M k).frm) : ∀ k, k ≤ n → ordL L k = ordL M k := by
  intro k
  induction k with
  | zero => intro _; rfl
  | succ k ih =>
    intro hk
    simp only [ordL, ih (by omega)]
    exact insL_congr k _ (h k (by omega)) (fun x hx => h x (by have := (ordL_mem M k x).1 hx; omega))

/-- The program's insertion from behind. -/
theorem ins_at {L : Nat → Lz} {k : Nat} : ∀ (l : List Nat) (j : Nat), j ≤ l.length → l.Pairwise (fun a b => (L a).frm ≤ (L b).frm) → (∀ x ∈ l.drop j, (L k).frm < (L x).frm) → (j = 0 ∨ (L (l.getD (j - 1) 0)).frm ≤ (L k).frm) → l.take j ++ k :: l.drop j = insL L k l := by
  intro l
  induction l with
  | nil => intro j hj _ _ _; simp [insL]
  | cons x l ih =>
    intro j hj hs hd h0
    rw [List.pairwise_cons] at hs
    cases j with
    | zero =>
      simp only [List.take_zero, List.drop_zero, List.nil_append, insL]
      rw [if_pos (hd x (by simp))]
    | succ j =>
      have hx : ¬ (L k).frm < (L x).frm := by
        rcases h0 with h0 | h0
        · omega
        · cases j with
          | zero => simpa using h0
          | succ j =>
            have hj' : j < l.length := by simp at hj; omega
            have hm : l.getD j 0 ∈ l := by simp [hj']
            have a := hs.1 _ hm
            have b : (L (l.getD j 0)).frm ≤ (L k).frm := by simpa using h0
            omega
      simp only [insL, if_neg hx, List.take_succ_cons, List.drop_succ_cons, List.cons_append]
      congr 1
      refine ih j (by simpa using hj) hs.2 (by simpa using hd) ?_
      cases j with
      | zero => exact .inl rfl
      | succ j =>
        right
        rcases h0 with h0 | h0
        · omega
        · simpa using h0
theorem ordL_le (L : Nat → Lz) (n : Nat) : (ordL L n).Pairwise (fun a b => (L a).frm ≤ (L b).frm) :=
  (ordL_sorted L n).imp fun h => by unfold bef at h; omega

/-- The j-th of the order. -/
def ordAt (L : Nat → Lz) (n j : Nat) : Nat := (ordL L n).getD j 0
theorem ordAt_lt {L : Nat → Lz} {n j : Nat} (hj : j < n) : ordAt L n j < n := by
  have h : j < (ordL L n).length := by rw [ordL_len]; exact hj
  refine (ordL_mem L n _).1 ?_
  simp [ordAt, h]
theorem ordAt_bef {L : Nat → Lz} {n i j : Nat} (hij : i < j) (hj : j < n) : bef L (ordAt L n i) (ordAt L n j) := by
  have h1 : j < (ordL L n).length := by rw [ordL_len]; exact hj
  have h2 : i < (ordL L n).length := by omega
  have := List.pairwise_iff_getElem.1 (ordL_sorted L n) i j h2 h1 hij
  simpa [ordAt, h1, h2] using this
theorem ordAt_inj {L : Nat → Lz} {n i j : Nat} (hi : i < n) (hj : j < n) (h : ordAt L n i = ordAt L n j) : i = j := by
  apply Classical.byContradiction
  intro hne
  rcases Nat.lt_or_gt_of_ne hne with a | a
  · have b := ordAt_bef (L := L) a hj
    rw [h] at b; exact bef_irr b
  · have b := ordAt_bef (L := L) a hi
    rw [h] at b; exact bef_irr b
theorem ordAt_surj {L : Nat → Lz} {n i : Nat} (hi : i < n) : ∃ j, j < n ∧ ordAt L n j = i := by
  obtain ⟨j, hj, h⟩ := List.getElem_of_mem ((ordL_mem L n i).2 hi)
  rw [ordL_len] at hj
  exact ⟨j, hj, by have : j < (ordL L n).length := by rw [ordL_len]; exact hj
                   simp [ordAt, this, h]⟩

/-- The reference's selection. -/
def doneB (L : Nat → Lz) (n d i : Nat) : Bool := ((ordL L n).take d).contains i
theorem doneB_iff {L : Nat → Lz} {n d i : Nat} (hd : d ≤ n) : doneB L n d i = true ↔ ∃ j, j < d ∧ ordAt L n j = i := by
  unfold doneB
  rw [List.contains_iff_mem, List.mem_take_iff_getElem]
  constructor
  · rintro ⟨j, hj, h⟩
    have hl := ordL_len L n
    have : j < (ordL L n).length := by omega
    exact ⟨j, by omega, by simp [ordAt, this, h]⟩
  · rintro ⟨j, hj, h⟩
    have hl := ordL_len L n
    have : j < (ordL L n).length := by omega
    exact ⟨j, by omega, by simpa [ordAt, this] using h⟩
/-- After looking at the first k: the first of those not done. -/
def selL (L : Nat → Lz) (n d : Nat) : Nat → Int
  | 0 => -1
  | k + 1 => if doneB L n d k = false ∧ (selL L n d k < 0 ∨ (L k).frm < (L (selL L n d k).toNat).frm) then (k : Int) else selL L n d k
theorem selL_facts (L : Nat → Lz) (n d : Nat) : ∀ k, (selL L n d k = -1 ∧ ∀ i, i < k → doneB L n d i = true) ∨ (∃ m : Nat, selL L n d k = (m : Int) ∧ m < k ∧ doneB L n d m = false ∧ ∀ i, i < k → doneB L n d i = false → i = m ∨ bef L m i) := by
  intro k
  induction k with
  | zero => left; exact ⟨rfl, fun i hi => by omega⟩
  | succ k ih =>
    simp only [selL]
    rcases ih with ⟨h1, h2⟩ | ⟨m, h1, h2, h3, h4⟩
    · cases hd : doneB L n d k
      · right
        rw [if_pos ⟨rfl, .inl (by omega)⟩]
        refine ⟨k, rfl, by omega, hd, fun i hi hn => ?_⟩
        by_cases e : i = k
        · exact .inl e
        · have := h2 i (by omega); rw [this] at hn; simp at hn
      · left
        rw [if_neg (by simp)]
        refine ⟨h1, fun i hi => ?_⟩
        by_cases e : i = k
        · subst e; exact hd
        · exact h2 i (by omega)
    · right
      have e1 : (selL L n d k).toNat = m := by omega
      rw [e1]
      by_cases hc : doneB L n d k = false ∧ (selL L n d k < 0 ∨ (L k).frm < (L m).frm)
      · rw [if_pos hc]
        have hlt : (L k).frm < (L m).frm := by rcases hc.2 with a | a <;> omega
        refine ⟨k, rfl, by omega, hc.1, fun i hi hn => ?_⟩
        by_cases e : i = k
        · exact .inl e
        · rcases h4 i (by omega) hn with e | b
          · subst e; exact .inr (.inl hlt)
          · exact .inr (bef_trans (.inl hlt) b)
      · rw [if_neg hc]
        refine ⟨m, h1, by omega, h3, fun i hi hn => ?_⟩
        by_cases e : i = k
        · subst e
          right
          have : ¬ (L i).frm < (L m).frm := fun hh => hc ⟨hn, .inr hh⟩
          unfold bef; omega
        · exact h4 i (by omega) hn
theorem selL_is {L : Nat → Lz} {n d : Nat} (hd : d < n) : selL L n d n = ((ordAt L n d : Nat) : Int) := by
  have hnot : doneB L n d (ordAt L n d) = false := by
    cases h : doneB L n d (ordAt L n d)
    · rfl
    · obtain ⟨j, h1, h2⟩ := (doneB_iff (by omega)).1 h
      have := ordAt_inj (L := L) (n := n) (by omega) hd h2
      omega
  rcases selL_facts L n d n with ⟨h1, h2⟩ | ⟨m, h1, h2, h3, h4⟩
  · have := h2 _ (ordAt_lt (L := L) hd)
    rw [hnot] at this; simp at this
  · rw [h1]
    rcases h4 _ (ordAt_lt (L := L) hd) hnot with e | b
    · rw [e]
    · exfalso
      obtain ⟨j, g1, g2⟩ := ordAt_surj (L := L) h2
      have hj : ¬ j < d := by
        intro hj
        rw [(doneB_iff (by omega)).2 ⟨j, hj, g2⟩] at h3; simp at h3
      by_cases e : j = d
      · subst e; rw [g2] at b; exact bef_irr b
      · have := ordAt_bef (L := L) (show d < j by omega) g1
        rw [g2] at this
        exact bef_irr (bef_trans this b)

/-! ### The least free connection -/
def lf (p : Nat → Bool) : Nat → Nat → Nat
  | 0, c => c
  | f + 1, c => if p c then lf p f (c + 1) else c
theorem lf_facts (p : Nat → Bool) : ∀ f c, (∃ d, c ≤ d ∧ d ≤ c + f ∧ p d = false) → c ≤ lf p f c ∧ p (lf p f c) = false ∧ ∀ d, c ≤ d → d < lf p f c → p d = true := by
  intro f
  induction f with
  | zero =>
    rintro c ⟨d, h1, h2, h3⟩
    obtain rfl : d = c := by omega
    exact ⟨Nat.le_refl _, h3, fun d a b => by simp [lf] at b; omega⟩
  | succ f ih =>
    rintro c ⟨d, h1, h2, h3⟩
    simp only [lf]
    split
    · rename_i hp
      have hne : d ≠ c := fun e => by subst e; rw [hp] at h3; simp at h3
      obtain ⟨a, b, g⟩ := ih (c + 1) ⟨d, by omega, by omega, h3⟩
      refine ⟨by omega, b, fun x hx hx' => ?_⟩
      by_cases e : x = c
      · subst e; exact hp
      · exact g x (by omega) hx'
    · rename_i hp
      exact ⟨Nat.le_refl _, by simpa using hp, fun d a b => by omega⟩
theorem missing : ∀ (m : Nat) (l : List Nat), l.length = m → ∃ c, c ≤ m ∧ c ∉ l := by
  intro m
  induction m with
  | zero => intro l hl; exact ⟨0, Nat.le_refl _, by rw [List.length_eq_zero_iff.1 hl]; simp⟩
  | succ m ih =>
    intro l hl
    by_cases h : (m + 1) ∈ l
    · obtain ⟨c, h1, h2⟩ := ih (l.erase (m + 1)) (by rw [List.length_erase_of_mem h]; omega)
      refine ⟨c, by omega, fun hc => h2 ?_⟩
      exact (List.mem_erase_of_ne (by omega)).2 hc
    · exact ⟨m + 1, Nat.le_refl _, h⟩

/-! ### Packing -/
/-- Whether a connection is taken by one of the first j of the order. -/
def takB (L : Nat → Lz) (n : Nat) (C : Nat → Int) (x : Lz) (c : Int) : Nat → Bool
  | 0 => false
  | i + 1 => takB L n C x c i || (decide (C (ordAt L n i) = c) && meetB (L (ordAt L n i)) x.frm x.til)
theorem takB_iff {L : Nat → Lz} {n : Nat} {C : Nat → Int} {x : Lz} {c : Int} {j : Nat} : takB L n C x c j = true ↔ ∃ i, i < j ∧ C (ordAt L n i) = c ∧ meetB (L (ordAt L n i)) x.frm x.til = true := by
  induction j with
  | zero => simp [takB]
  | succ j ih =>
    simp only [takB, Bool.or_eq_true, Bool.and_eq_true, decide_eq_true_eq, ih]
    constructor
    · rintro (⟨i, h1, h2⟩ | h)
      · exact ⟨i, by omega, h2⟩
      · exact ⟨j, by omega, h⟩
    · rintro ⟨i, h1, h2⟩
      by_cases e : i = j
      · subst e; exact .inr h2
      · exact .inl ⟨i, by omega, h2⟩
def freeC (L : Nat → Lz) (n j : Nat) (C : Nat → Int) : Nat := lf (fun c => takB L n C (L (ordAt L n j)) (c : Int) j) 12 0
def packC (L : Nat → Lz) (n : Nat) : Nat → Nat → Int
  | 0 => fun i => (L i).conn
  | j + 1 => fun i => if i = ordAt L n j then (freeC L n j (packC L n j) : Int) else packC L n j i
/-- The j-th one's connection stays. -/
theorem packC_stays (L : Nat → Lz) (n i : Nat) : ∀ j, i < j → j ≤ n → packC L n j (ordAt L n i) = (freeC L n i (packC L n i) : Int) := by
  intro j
  induction j with
  | zero => intro h; omega
  | succ j ih =>
    intro h hj
    simp only [packC]
    by_cases e : i = j
    · subst e; rw [if_pos rfl]
    · rw [if_neg (fun hh => e (ordAt_inj (by omega) (by omega) hh))]
      exact ih (by omega) (by omega)
def packL (L : Nat → Lz) (n i : Nat) : Lz := { (L i) with conn := packC L n n i }

/-- Those of the first j of the order that have a time in common with x. -/
def metL (L : Nat → Lz) (n j : Nat) (x : Lz) : List Nat := ((ordL L n).take j).filter fun i => meetB (L i) x.frm x.til
theorem cntAt_filter (L : Nat → Lz) (t : Int) (n : Nat) : cntAt L t n = ((List.range n).filter fun i => holdsB (L i) t).length := by
  induction n with
  | zero => rfl
  | succ n ih =>
    rw [List.range_succ, List.filter_append, List.length_append, ← ih, cntAt]
    cases h : holdsB (L n) t <;> simp [h]
theorem met_cnt {L : Nat → Lz} {n j : Nat} (h : vL L n = true) (hj : j < n) : (metL L n j (L (ordAt L n j))).length + 1 ≤ cntAt L (L (ordAt L n j)).frm n := by
  have hl : j < (ordL L n).length := by rw [ordL_len]; exact hj
  rw [cntAt_filter, ← ((ordL_perm L n).filter _).length_eq]
  have e : ((ordL L n).take (j + 1)).filter (fun i => holdsB (L i) (L (ordAt L n j)).frm) = metL L n j (L (ordAt L n j)) ++ [ordAt L n j] := by
    rw [List.take_succ_eq_append_getElem hl, List.filter_append]
    have e1 : (ordL L n)[j] = ordAt L n j := by simp [ordAt, hl]
    rw [e1]
    congr 1
    · unfold metL
      apply List.filter_congr
      intro i hi
      obtain ⟨q, hq, rfl⟩ := List.mem_take_iff_getElem.1 hi
      have hq' : q < (ordL L n).length := by omega
      have e2 : (ordL L n)[q] = ordAt L n q := by simp [ordAt, hq']
      rw [e2]
      have b := ordAt_bef (L := L) (n := n) (i := q) (j := j) (by omega) hj
      have f1 := vL_at h _ (ordAt_lt (L := L) hj)
      rw [Bool.eq_iff_iff, holdsB_iff]
      simp only [meetB, Bool.and_eq_true, decide_eq_true_eq]
      unfold bef at b
      omega
    · simp [own_holds h _ (ordAt_lt hj)]
  have e2 : (metL L n j (L (ordAt L n j))).length + 1 = (((ordL L n).take (j + 1)).filter (fun i => holdsB (L i) (L (ordAt L n j)).frm)).length := by rw [e]; simp
  rw [e2]
  exact ((List.take_sublist _ _).filter _).length_le
theorem free_some {L : Nat → Lz} {n j : Nat} (h : vL L n = true) (hj : j < n) (C : Nat → Int) (h0 : ∀ i, i < j → 0 ≤ C (ordAt L n i)) : ∃ c : Nat, c ≤ 5 ∧ takB L n C (L (ordAt L n j)) (c : Int) j = false := by
  obtain ⟨c, h1, h2⟩ := missing _ ((metL L n j (L (ordAt L n j))).map fun i => (C i).toNat) rfl
  have h3 := met_cnt h hj
  have h4 := busyN_cnt h (L (ordAt L n j)).frm n (Nat.le_refl _)
  have h5 := busyN_le L (L (ordAt L n j)).frm n 6
  refine ⟨c, by simp at h1; omega, ?_⟩
  cases hc : takB L n C (L (ordAt L n j)) (c : Int) j
  · rfl
  · exfalso
    obtain ⟨i, a, b, d⟩ := takB_iff.1 hc
    apply h2
    have hl := ordL_len L n
    have hi : i < (ordL L n).length := by omega
    refine List.mem_map.2 ⟨ordAt L n i, ?_, by rw [b]; rfl⟩
    refine List.mem_filter.2 ⟨?_, d⟩
    rw [List.mem_take_iff_getElem]
    exact ⟨i, by omega, by simp [ordAt, hi]⟩
theorem free_facts {L : Nat → Lz} {n j : Nat} (h : vL L n = true) (hj : j < n) (C : Nat → Int) (h0 : ∀ i, i < j → 0 ≤ C (ordAt L n i)) :
    freeC L n j C ≤ 5 ∧ takB L n C (L (ordAt L n j)) (freeC L n j C : Int) j = false ∧ ∀ c : Nat, c < freeC L n j C → takB L n C (L (ordAt L n j)) (c : Int) j = true := by
  obtain ⟨c, h1, h2⟩ := free_some h hj C h0
  obtain ⟨a, b, d⟩ := lf_facts (fun c => takB L n C (L (ordAt L n j)) (c : Int) j) 12 0 ⟨c, by omega, by omega, h2⟩
  refine ⟨?_, b, fun x hx => d x (by omega) hx⟩
  apply Classical.byContradiction
  intro hne
  have := d c (by omega) (by show c < freeC L n j C; omega)
  rw [h2] at this; simp at this
theorem packC_nonneg (L : Nat → Lz) (n : Nat) : ∀ j, j ≤ n → ∀ i, i < j → 0 ≤ packC L n j (ordAt L n i) := by
  intro j hj i hi
  rw [packC_stays L n i j hi hj]; omega
theorem pack_facts {L : Nat → Lz} {n j : Nat} (h : vL L n = true) (hj : j < n) :
    freeC L n j (packC L n j) ≤ 5 ∧ takB L n (packC L n j) (L (ordAt L n j)) (freeC L n j (packC L n j) : Int) j = false ∧ ∀ c : Nat, c < freeC L n j (packC L n j) → takB L n (packC L n j) (L (ordAt L n j)) (c : Int) j = true :=
  free_facts h hj _ (packC_nonneg L n j (by omega))
theorem pack_conn {L : Nat → Lz} {n j : Nat} (hj : j < n) : (packL L n (ordAt L n j)).conn = (freeC L n j (packC L n j) : Int) := packC_stays L n j n hj (Nat.le_refl _)

theorem meetB_comm {a b : Lz} (h : meetB a b.frm b.til = true) : meetB b a.frm a.til = true := by
  simp only [meetB, Bool.and_eq_true, decide_eq_true_eq] at *; omega
/-- Two of one connection are apart. -/
theorem pack_apart {L : Nat → Lz} {n i j : Nat} (h : vL L n = true) (hij : i < j) (hj : j < n) (hc : (packL L n (ordAt L n i)).conn = (packL L n (ordAt L n j)).conn) : meetB (L (ordAt L n i)) (L (ordAt L n j)).frm (L (ordAt L n j)).til = false := by
  rw [pack_conn (by omega), pack_conn hj] at hc
  have h2 := (pack_facts h hj).2.1
  cases hm : meetB (L (ordAt L n i)) (L (ordAt L n j)).frm (L (ordAt L n j)).til
  · rfl
  · rw [takB_iff.2 ⟨i, hij, by rw [packC_stays L n i j hij (by omega)]; exact hc, hm⟩] at h2; simp at h2
theorem pack_valid {L : Nat → Lz} {n : Nat} (h : vL L n = true) : vL (packL L n) n = true := by
  have hf := vL_facts h
  simp only [vL, Bool.and_eq_true, decide_eq_true_eq]
  refine ⟨okL_mk (fun k hk => ?_) (fun a b hab hb => ?_), hf.2⟩
  · obtain ⟨j, hj, rfl⟩ := ordAt_surj (L := L) hk
    have h1 := vL_at h _ hk
    have h2 := pack_conn (L := L) hj
    have h3 := pack_facts h hj
    exact okL1_mk (by simp only [packL] at h2 ⊢; omega)
  · cases hc : clashB (packL L n a) (packL L n b)
    · rfl
    · exfalso
      obtain ⟨c1, c2, c3⟩ := clashB_iff.1 hc
      obtain ⟨i, hi, rfl⟩ := ordAt_surj (L := L) (show a < n by omega)
      obtain ⟨j, hj, rfl⟩ := ordAt_surj (L := L) hb
      have hne : i ≠ j := fun e => by subst e; omega
      rcases Nat.lt_or_gt_of_ne hne with g | g
      · have := pack_apart h g hj c1
        simp only [meetB, Bool.and_eq_false_iff, decide_eq_false_iff_not] at this
        simp only [packL] at c2 c3
        omega
      · have := pack_apart h g hi c1.symm
        simp only [meetB, Bool.and_eq_false_iff, decide_eq_false_iff_not] at this
        simp only [packL] at c2 c3
        omega
theorem takB_congr {L M : Nat → Lz} {n : Nat} (ho : ∀ i, i < n → ordAt L n i = ordAt M n i) (hf : ∀ i, i < n → (L i).frm = (M i).frm ∧ (L i).til = (M i).til) {C D : Nat → Int} {x y : Lz} (hx : x.frm = y.frm ∧ x.til = y.til) (c : Int) : ∀ j, j ≤ n → (∀ i, i < j → C (ordAt L n i) = D (ordAt M n i)) → takB L n C x c j = takB M n D y c j := by
  intro j
  induction j with
  | zero => intro _ _; rfl
  | succ j ih =>
    intro hj h
    have e1 := ih (by omega) (fun i hi => h i (by omega))
    have e2 := h j (by omega)
    have e3 : meetB (L (ordAt L n j)) x.frm x.til = meetB (M (ordAt M n j)) y.frm y.til := by
      have a := hf _ (ordAt_lt (L := L) (n := n) (j := j) (by omega))
      rw [ho j (by omega)] at a ⊢
      unfold meetB
      rw [a.1, a.2, hx.1, hx.2]
    simp only [takB, e1, e2, e3]
theorem packC_congr {L M : Nat → Lz} {n : Nat} (hf : ∀ i, i < n → (L i).frm = (M i).frm ∧ (L i).til = (M i).til) : ∀ j, j ≤ n → ∀ i, i < j → packC L n j (ordAt L n i) = packC M n j (ordAt M n i) := by
  have ho : ∀ i, i < n → ordAt L n i = ordAt M n i := fun i _ => by unfold ordAt; rw [ordL_congr (fun k hk => (hf k hk).1) n (Nat.le_refl _)]
  have aux : ∀ j, j < n → freeC L n j (packC L n j) = freeC M n j (packC M n j) := by
    intro j
    induction j using Nat.strongRecOn with
    | ind j ih =>
      intro hj
      have hC : ∀ i, i < j → packC L n j (ordAt L n i) = packC M n j (ordAt M n i) := by
        intro i hi
        rw [packC_stays L n i j hi (by omega), packC_stays M n i j hi (by omega), ih i hi (by omega)]
      have a := hf _ (ordAt_lt (L := L) hj)
      unfold freeC
      congr 1
      funext c
      refine takB_congr ho hf ?_ _ j (by omega) hC
      rw [ho j hj] at a ⊢
      exact a
  intro j hj i hi
  rw [packC_stays L n i j hi hj, packC_stays M n i j hi hj, aux i (by omega)]
theorem pack_twice {L : Nat → Lz} {n : Nat} (i : Nat) (hi : i < n) : packL (packL L n) n i = packL L n i := by
  have hf : ∀ i, i < n → (packL L n i).frm = (L i).frm ∧ (packL L n i).til = (L i).til := fun i _ => ⟨rfl, rfl⟩
  obtain ⟨j, hj, e⟩ := ordAt_surj (L := packL L n) hi
  have ho : ordAt (packL L n) n j = ordAt L n j := by unfold ordAt; rw [ordL_congr (fun k hk => (hf k hk).1) n (Nat.le_refl _)]
  have h1 := packC_congr hf n (Nat.le_refl _) j hj
  rw [ho] at h1 e
  rw [e] at h1
  have h2 : packC (packL L n) n n i = (packL L n i).conn := h1
  show ({ (packL L n i) with conn := packC (packL L n) n n i } : Lz) = packL L n i
  rw [h2]
theorem pack_first {L : Nat → Lz} {n : Nat} (h : vL L n = true) (hn : 0 < n) : ∃ i, i < n ∧ (packL L n i).conn = 0 := by
  refine ⟨ordAt L n 0, ordAt_lt hn, ?_⟩
  rw [pack_conn hn]
  have h3 := (pack_facts h hn).2.2 0
  by_cases e : 0 < freeC L n 0 (packC L n 0)
  · have := h3 e; simp [takB] at this
  · omega
theorem pack_below {L : Nat → Lz} {n i : Nat} (h : vL L n = true) (hi : i < n) (hc : (packL L n i).conn ≠ 0) : ∃ k, k < n ∧ (packL L n k).conn = (packL L n i).conn - 1 ∧ (L k).frm ≤ (L i).frm ∧ (L i).frm < (L k).til := by
  obtain ⟨j, hj, rfl⟩ := ordAt_surj (L := L) hi
  rw [pack_conn hj] at hc ⊢
  have h3 := (pack_facts h hj).2.2 (freeC L n j (packC L n j) - 1) (by omega)
  obtain ⟨q, a, b, c⟩ := takB_iff.1 h3
  refine ⟨ordAt L n q, ordAt_lt (by omega), ?_, ?_⟩
  · rw [pack_conn (by omega), ← packC_stays L n q j a (by omega), b]; omega
  · have d := ordAt_bef (L := L) (n := n) a hj
    simp only [meetB, Bool.and_eq_true, decide_eq_true_eq] at c
    unfold bef at d
    omega
theorem pack_bounds {L : Nat → Lz} {n i : Nat} (h : vL L n = true) (hi : i < n) : 0 ≤ (packL L n i).conn ∧ (packL L n i).conn ≤ 5 := by
  have := vL_at (pack_valid h) i hi
  omega
end Go.Proofs.Ythbemokpdcipaaa
