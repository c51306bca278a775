/-
  What is proved: the plain law of the stable sort: what its pieces do to a list. Conditions: the order is a total preorder. No program in sight.
  What is proved: how the reference compares its numbers of decimal digits. Conditions: none.
-/
import Derived.RowKit
import Derived.Test.YthejmnmkbldacaaGreatDoorAp08
set_option linter.all false
namespace Go.Proofs.YthejmnmkbldacaaGreatDoor
open Go Go.RowKit

section
variable {α : Type} [Inhabited α]
def dat (l : List α) (i : Nat) : α := l.getD i default
theorem dat_some {l : List α} {i : Nat} (h : i < l.length) : l[i]? = some (dat l i) := by
  unfold dat
  rw [List.getD_eq_getElem?_getD, List.getElem?_eq_getElem h]
  rfl
theorem dat_eq {l : List α} {i : Nat} (h : i < l.length) : dat l i = l[i] := by
  unfold dat
  rw [List.getD_eq_getElem?_getD, List.getElem?_eq_getElem h]
  rfl
theorem dat_set {l : List α} {i k : Nat} (x : α) (h : i < l.length) : dat (l.set i x) k = if i = k then x else dat l k := by
  unfold dat
  rw [List.getD_eq_getElem?_getD, List.getElem?_set]
  by_cases e : i = k
  · rw [if_pos e, if_pos e, if_pos h]; rfl
  · rw [if_neg e, if_neg e, List.getD_eq_getElem?_getD]
theorem dat_mem {l : List α} {i : Nat} (h : i < l.length) : dat l i ∈ l := by rw [dat_eq h]; exact List.getElem_mem h

/-- the two at i and j change places -/
def swapD (l : List α) (i j : Nat) : List α := (l.set i (dat l j)).set j (dat l i)
theorem swapD_length (l : List α) (i j : Nat) : (swapD l i j).length = l.length := by simp [swapD]
theorem swapD_perm {l : List α} {i j : Nat} (hi : i < l.length) (hj : j < l.length) : (swapD l i j).Perm l := by
  unfold swapD
  rw [dat_eq hi, dat_eq hj]
  exact List.set_set_perm hi hj
theorem swapD_at {l : List α} {i j k : Nat} (hi : i < l.length) (hj : j < l.length) : dat (swapD l i j) k = if j = k then dat l i else if i = k then dat l j else dat l k := by
  unfold swapD
  rw [dat_set _ (by simpa using hj), dat_set _ hi]

/-- a total preorder -/
structure CmpOrd (c : α → α → Int) : Prop where
  anti : ∀ a b, c b a = -c a b
  trans : ∀ {a b d}, c a b ≤ 0 → c b d ≤ 0 → c a d ≤ 0
omit [Inhabited α] in
theorem CmpOrd.self {c : α → α → Int} (H : CmpOrd c) (a : α) : c a a = 0 := by have := H.anti a a; omega

/-- the same elements, changed from a to b alone -/
structure SameOut (l l' : List α) (a b : Nat) : Prop where
  perm : l'.Perm l
  out : ∀ k, k < a ∨ b ≤ k → dat l' k = dat l k
  inn : ∀ k, a ≤ k → k < b → ∃ j, a ≤ j ∧ j < b ∧ dat l' k = dat l j
theorem SameOut.refl (l : List α) (a b : Nat) : SameOut l l a b := ⟨.refl _, fun _ _ => rfl, fun k h1 h2 => ⟨k, h1, h2, rfl⟩⟩
theorem SameOut.trans {l l' l'' : List α} {a b : Nat} (h : SameOut l l' a b) (h' : SameOut l' l'' a b) : SameOut l l'' a b :=
  ⟨h'.perm.trans h.perm, fun k hk => (h'.out k hk).trans (h.out k hk), fun k h1 h2 => by
    obtain ⟨j, h3, h4, e⟩ := h'.inn k h1 h2
    obtain ⟨i, h5, h6, e'⟩ := h.inn j h3 h4
    exact ⟨i, h5, h6, e.trans e'⟩⟩
theorem SameOut.wide {l l' : List α} {a b a' b' : Nat} (h : SameOut l l' a b) (ha : a' ≤ a) (hb : b ≤ b') : SameOut l l' a' b' :=
  ⟨h.perm, fun k hk => h.out k (by omega), fun k h1 h2 => by
    by_cases hk : a ≤ k ∧ k < b
    · obtain ⟨j, h3, h4, e⟩ := h.inn k hk.1 hk.2
      exact ⟨j, by omega, by omega, e⟩
    · exact ⟨k, h1, h2, h.out k (by omega)⟩⟩
theorem SameOut.swap {l : List α} {i j a b : Nat} (hi : i < l.length) (hj : j < l.length) (h1 : a ≤ i) (h2 : i < b) (h3 : a ≤ j) (h4 : j < b) : SameOut l (swapD l i j) a b :=
  ⟨swapD_perm hi hj, fun k hk => by rw [swapD_at hi hj, if_neg (by omega), if_neg (by omega)], fun k k1 k2 => by
    rw [swapD_at hi hj]
    by_cases e : j = k
    · rw [if_pos e]; exact ⟨i, h1, h2, rfl⟩
    · rw [if_neg e]
      by_cases e' : i = k
      · rw [if_pos e']; exact ⟨j, h3, h4, rfl⟩
      · rw [if_neg e']; exact ⟨k, k1, k2, rfl⟩⟩
theorem SameOut.len {l l' : List α} {a b : Nat} (h : SameOut l l' a b) : l'.length = l.length := h.perm.length_eq

variable {c : α → α → Int}
/-- in order from a to b -/
def SortedOn (c : α → α → Int) (l : List α) (a b : Nat) : Prop := ∀ k, a ≤ k → k + 1 < b → c (dat l k) (dat l (k + 1)) ≤ 0
theorem SortedOn.two (H : CmpOrd c) {l : List α} {a b : Nat} (h : SortedOn c l a b) : ∀ (d i : Nat), a ≤ i → i + d < b → c (dat l i) (dat l (i + d)) ≤ 0
  | 0, i, _, _ => Int.le_of_eq (H.self _)
  | d + 1, i, h1, h2 => H.trans (SortedOn.two H h d i h1 (by omega)) (h (i + d) (by omega) (by omega))
theorem SortedOn.le (H : CmpOrd c) {l : List α} {a b : Nat} (h : SortedOn c l a b) {i j : Nat} (h1 : a ≤ i) (h2 : i ≤ j) (h3 : j < b) : c (dat l i) (dat l j) ≤ 0 := by
  have := h.two H (j - i) i h1 (by omega)
  rwa [show i + (j - i) = j by omega] at this
theorem SortedOn.narrow {l : List α} {a b a' b' : Nat} (h : SortedOn c l a b) (ha : a ≤ a') (hb : b' ≤ b) : SortedOn c l a' b' := fun k h1 h2 => h k (by omega) (by omega)
theorem SortedOn.tiny (l : List α) {a b : Nat} (h : b ≤ a + 1) : SortedOn c l a b := fun k h1 h2 => by omega
theorem SortedOn.congr {l l' : List α} {a b : Nat} (h : SortedOn c l a b) (he : ∀ k, a ≤ k → k < b → dat l' k = dat l k) : SortedOn c l' a b := fun k h1 h2 => by
  rw [he k h1 (by omega), he (k + 1) (by omega) h2]; exact h k h1 h2

/-- where insertion's inner loop stands -/
structure Ins (c : α → α → Int) (l0 l : List α) (a i j : Nat) : Prop where
  same : SameOut l0 l a (i + 1)
  lo : a ≤ j
  hi : j ≤ i
  adj : ∀ k, a ≤ k → k + 1 ≤ i → k + 1 ≠ j → c (dat l k) (dat l (k + 1)) ≤ 0
  over : a < j → j < i → c (dat l (j - 1)) (dat l (j + 1)) ≤ 0
theorem Ins.start {l : List α} {a i : Nat} (h : SortedOn c l a i) (ha : a ≤ i) : Ins c l l a i i :=
  ⟨.refl _ _ _, ha, Nat.le_refl _, fun k h1 h2 h3 => h k h1 (by omega), fun _ h => absurd h (Nat.lt_irrefl _)⟩
theorem Ins.step {l0 l : List α} {a i j : Nat} (h : Ins c l0 l a i j) (hlen : i < l.length) (hj : a < j) (hc : c (dat l j) (dat l (j - 1)) < 0) : Ins c l0 (swapD l j (j - 1)) a i (j - 1) := by
  have hi := h.hi
  have e : ∀ k, dat (swapD l j (j - 1)) k = if j - 1 = k then dat l j else if j = k then dat l (j - 1) else dat l k := fun k => swapD_at (by omega) (by omega)
  refine ⟨h.same.trans (.swap (by omega) (by omega) (by omega) (by omega) (by omega) (by omega)), by omega, by omega, fun k h1 h2 h3 => ?_, fun h1 h2 => ?_⟩
  · rw [e, e]
    by_cases k1 : k = j - 1
    · rw [if_pos k1.symm, if_neg (by omega), if_pos (by omega)]
      omega
    · by_cases k2 : k = j
      · rw [if_neg (by omega), if_pos k2.symm, if_neg (by omega), if_neg (by omega), k2]
        exact h.over hj (by omega)
      · rw [if_neg (by omega), if_neg (by omega), if_neg (by omega), if_neg (by omega)]
        exact h.adj k h1 h2 (by omega)
  · rw [e, e, if_neg (by omega), if_neg (by omega), if_neg (by omega), if_pos (by omega)]
    have := h.adj (j - 1 - 1) (by omega) (by omega) (by omega)
    rwa [show j - 1 - 1 + 1 = j - 1 by omega] at this
theorem Ins.done (H : CmpOrd c) {l0 l : List α} {a i j : Nat} (h : Ins c l0 l a i j) (hj : j = a ∨ ¬ c (dat l j) (dat l (j - 1)) < 0) : SortedOn c l a (i + 1) := by
  intro k h1 h2
  by_cases k1 : k + 1 = j
  · rcases hj with e | e
    · omega
    · have := H.anti (dat l j) (dat l (j - 1))
      rw [← k1] at this e
      rw [show k + 1 - 1 = k by omega] at this e
      omega
  · exact h.adj k h1 (by omega) k1

/-! swapping two ranges -/
/-- i of n places of two ranges have been swapped -/
structure Swr (l l' : List α) (a b i : Nat) : Prop where
  perm : l'.Perm l
  at_ : ∀ k, dat l' k = if a ≤ k ∧ k < a + i then dat l (b + (k - a)) else if b ≤ k ∧ k < b + i then dat l (a + (k - b)) else dat l k
theorem Swr.start (l : List α) (a b : Nat) : Swr l l a b 0 := ⟨.refl _, fun k => by rw [if_neg (by omega), if_neg (by omega)]⟩
theorem Swr.step {l l' : List α} {a b i n : Nat} (h : Swr l l' a b i) (hi : i < n) (hab : a + n ≤ b) (hb : b + n ≤ l.length) : Swr l (swapD l' (a + i) (b + i)) a b (i + 1) := by
  have hl := h.perm.length_eq
  refine ⟨(swapD_perm (by omega) (by omega)).trans h.perm, fun k => ?_⟩
  rw [swapD_at (by omega) (by omega)]
  by_cases k1 : b + i = k
  · rw [if_pos k1, h.at_, if_neg (by omega), if_neg (by omega), if_neg (by omega), if_pos (by omega)]
    congr 1
    omega
  · rw [if_neg k1]
    by_cases k2 : a + i = k
    · rw [if_pos k2, h.at_, if_neg (by omega), if_neg (by omega), if_pos (by omega)]
      congr 1
      omega
    · rw [if_neg k2, h.at_]
      by_cases k3 : a ≤ k ∧ k < a + i
      · rw [if_pos k3, if_pos (by omega)]
      · rw [if_neg k3, if_neg (show ¬ (a ≤ k ∧ k < a + (i + 1)) by omega)]
        by_cases k4 : b ≤ k ∧ k < b + i
        · rw [if_pos k4, if_pos (by omega)]
        · rw [if_neg k4, if_neg (by omega)]

/-! the rotation -/
/-- what the row from a to b is when its parts from a to m and from m to b have changed places -/
def rotAt (l : List α) (a m b k : Nat) : α := if a ≤ k ∧ k < a + (b - m) then dat l (m + (k - a)) else if a + (b - m) ≤ k ∧ k < b then dat l (k - (b - m)) else dat l k
/-- where the rotation stands: the parts of i and j elements on both sides of m are still to change places -/
structure Rot (l l' : List α) (a m b i j : Nat) : Prop where
  same : SameOut l l' a b
  bi : i ≤ m - a
  bj : j ≤ b - m
  at_ : ∀ k, rotAt l' (m - i) m (m + j) k = rotAt l a m b k
theorem Rot.start (l : List α) {a m b : Nat} (h1 : a ≤ m) (h2 : m ≤ b) : Rot l l a m b (m - a) (b - m) :=
  ⟨.refl _ _ _, Nat.le_refl _, Nat.le_refl _, fun k => by rw [show m - (m - a) = a by omega, show m + (b - m) = b by omega]⟩
theorem Swr.sameOut {l l' : List α} {x y n a b : Nat} (h : Swr l l' x y n) (hax : a ≤ x) (hxy : x + n ≤ y) (hyb : y + n ≤ b) : SameOut l l' a b :=
  ⟨h.perm, fun k hk => by rw [h.at_, if_neg (by omega), if_neg (by omega)], fun k h1 h2 => by
    rw [h.at_]
    by_cases k1 : x ≤ k ∧ k < x + n
    · rw [if_pos k1]; exact ⟨_, by omega, by omega, rfl⟩
    · rw [if_neg k1]
      by_cases k2 : y ≤ k ∧ k < y + n
      · rw [if_pos k2]; exact ⟨_, by omega, by omega, rfl⟩
      · rw [if_neg k2]; exact ⟨k, h1, h2, rfl⟩⟩
theorem Rot.left {l l' l'' : List α} {a m b i j : Nat} (h : Rot l l' a m b i j) (ham : a ≤ m) (hmb : m ≤ b) (hij : j < i) (hs : Swr l' l'' (m - i) m j) : Rot l l'' a m b (i - j) j := by
  have hi := h.bi
  have hj := h.bj
  refine ⟨h.same.trans (hs.sameOut (by omega) (by omega) (by omega)), by omega, hj, fun k => ?_⟩
  rw [← h.at_ k]
  unfold rotAt
  simp only [hs.at_]
  by_cases k1 : m - i ≤ k ∧ k < m - i + j
  · rw [if_neg (by omega), if_neg (by omega), if_pos (by omega), if_pos (by omega)]
  · by_cases k2 : m - i + j ≤ k ∧ k < m + j
    · by_cases k3 : k < m - (i - j) + j
      · rw [if_pos (by omega), if_neg (by omega), if_pos (by omega), if_neg (by omega), if_pos (by omega)]
        congr 1
        omega
      · rw [if_neg (by omega), if_pos (by omega), if_neg (by omega), if_neg (by omega), if_neg (by omega), if_pos (by omega)]
    · rw [if_neg (by omega), if_neg (by omega), if_neg (by omega), if_neg (by omega), if_neg (by omega), if_neg (by omega)]
theorem Rot.right {l l' l'' : List α} {a m b i j : Nat} (h : Rot l l' a m b i j) (ham : a ≤ m) (hmb : m ≤ b) (hij : i < j) (hs : Swr l' l'' (m - i) (m + j - i) i) : Rot l l'' a m b i (j - i) := by
  have hi := h.bi
  have hj := h.bj
  refine ⟨h.same.trans (hs.sameOut (by omega) (by omega) (by omega)), hi, by omega, fun k => ?_⟩
  rw [← h.at_ k]
  unfold rotAt
  simp only [hs.at_]
  by_cases k1 : m + j - i ≤ k ∧ k < m + j
  · rw [if_neg (by omega), if_neg (by omega), if_neg (by omega), if_pos (by omega), if_neg (by omega), if_pos (by omega)]
    congr 1
    omega
  · by_cases k2 : m - i ≤ k ∧ k < m + j - i
    · by_cases k3 : k < m - i + (j - i)
      · rw [if_pos (by omega), if_neg (by omega), if_neg (by omega), if_pos (by omega)]
      · rw [if_neg (by omega), if_pos (by omega), if_pos (by omega), if_pos (by omega)]
        congr 1
        omega
    · rw [if_neg (by omega), if_neg (by omega), if_neg (by omega), if_neg (by omega), if_neg (by omega), if_neg (by omega)]
theorem Rot.last {l l' l'' : List α} {a m b i : Nat} (h : Rot l l' a m b i i) (ham : a ≤ m) (hmb : m ≤ b) (hs : Swr l' l'' (m - i) m i) : SameOut l l'' a b ∧ ∀ k, dat l'' k = rotAt l a m b k := by
  have hi := h.bi
  have hj := h.bj
  refine ⟨h.same.trans (hs.sameOut (by omega) (by omega) (by omega)), fun k => ?_⟩
  rw [← h.at_ k, hs.at_]
  unfold rotAt
  by_cases k1 : m - i ≤ k ∧ k < m
  · rw [if_pos (by omega), if_pos (by omega)]
  · by_cases k2 : m ≤ k ∧ k < m + i
    · rw [if_neg (by omega), if_pos (by omega), if_neg (by omega), if_pos (by omega)]
      congr 1
      omega
    · rw [if_neg (by omega), if_neg (by omega), if_neg (by omega), if_neg (by omega)]
theorem rotAt_left {l : List α} {m b k : Nat} (hk : m ≤ b) : rotAt l m m b k = dat l k := by
  unfold rotAt
  by_cases k1 : m ≤ k ∧ k < m + (b - m)
  · rw [if_pos k1]; congr 1; omega
  · rw [if_neg k1, if_neg (by omega)]
theorem rotAt_right {l : List α} {a m k : Nat} : rotAt l a m m k = dat l k := by
  unfold rotAt
  rw [if_neg (by omega)]
  by_cases k1 : a + (m - m) ≤ k ∧ k < m
  · rw [if_pos k1]; congr 1; omega
  · rw [if_neg k1]

/-! the merge -/
/-- the first element moves up to place k -/
structure Up (l l' : List α) (a k : Nat) : Prop where
  same : SameOut l l' a (k + 1)
  at_ : ∀ x, dat l' x = if a ≤ x ∧ x < k then dat l (x + 1) else if x = k then dat l a else dat l x
theorem Up.start (l : List α) (a : Nat) : Up l l a a := ⟨.refl _ _ _, fun x => by
  rw [if_neg (by omega)]
  by_cases h : x = a
  · rw [if_pos h, h]
  · rw [if_neg h]⟩
theorem Up.step {l l' : List α} {a k : Nat} (h : Up l l' a k) (hak : a ≤ k) (hk : k + 1 < l.length) : Up l (swapD l' k (k + 1)) a (k + 1) := by
  have hl := h.same.len
  refine ⟨(h.same.wide (Nat.le_refl _) (Nat.le_succ _)).trans (.swap (by omega) (by omega) (by omega) (by omega) (by omega) (by omega)), fun x => ?_⟩
  rw [swapD_at (by omega) (by omega), h.at_, h.at_, h.at_]
  by_cases x1 : k + 1 = x
  · rw [if_pos x1, if_neg (by omega), if_pos rfl, if_neg (by omega), if_pos x1.symm]
  · rw [if_neg x1]
    by_cases x2 : k = x
    · rw [if_pos x2, if_neg (by omega), if_neg (by omega), if_pos (by omega), x2]
    · rw [if_neg x2, if_neg (show ¬ x = k by omega), if_neg (show ¬ x = k + 1 by omega)]
      by_cases x3 : a ≤ x ∧ x < k
      · rw [if_pos x3, if_pos (by omega)]
      · rw [if_neg x3, if_neg (by omega)]
theorem Up.sorted (H : CmpOrd c) {l l' : List α} {a i b : Nat} (hm : a + 1 ≤ i) (hib : i ≤ b) (hs : SortedOn c l (a + 1) b) (h1 : ∀ k, a + 1 ≤ k → k < i → c (dat l k) (dat l a) < 0) (h2 : ∀ k, i ≤ k → k < b → ¬ c (dat l k) (dat l a) < 0)
    (h : Up l l' a (i - 1)) : SameOut l l' a b ∧ SortedOn c l' a b := by
  refine ⟨h.same.wide (Nat.le_refl _) (by omega), fun k hk1 hk2 => ?_⟩
  rw [h.at_, h.at_]
  by_cases k1 : k + 1 < i - 1
  · rw [if_pos (by omega), if_pos (by omega)]
    exact hs (k + 1) (by omega) (by omega)
  · by_cases k2 : k + 1 = i - 1
    · rw [if_pos (by omega), if_neg (by omega), if_pos k2]
      exact Int.le_of_lt (h1 (k + 1) (by omega) (by omega))
    · by_cases k3 : k = i - 1
      · rw [if_neg (by omega), if_pos k3, if_neg (by omega), if_neg (by omega)]
        have := h2 (k + 1) (by omega) (by omega)
        have := H.anti (dat l (k + 1)) (dat l a)
        omega
      · rw [if_neg (by omega), if_neg k3, if_neg (by omega), if_neg (by omega)]
        exact hs k (by omega) hk2
/-- the last element moves down to place k -/
structure Down (l l' : List α) (m k : Nat) : Prop where
  same : SameOut l l' k (m + 1)
  at_ : ∀ x, dat l' x = if k < x ∧ x ≤ m then dat l (x - 1) else if x = k then dat l m else dat l x
theorem Down.start (l : List α) (m : Nat) : Down l l m m := ⟨.refl _ _ _, fun x => by
  rw [if_neg (by omega)]
  by_cases h : x = m
  · rw [if_pos h, h]
  · rw [if_neg h]⟩
theorem Down.step {l l' : List α} {m k : Nat} (h : Down l l' m k) (hkm : k ≤ m) (hk : 0 < k) (hm : m < l.length) : Down l (swapD l' k (k - 1)) m (k - 1) := by
  have hl := h.same.len
  refine ⟨(h.same.wide (by omega) (Nat.le_refl _)).trans (.swap (by omega) (by omega) (by omega) (by omega) (by omega) (by omega)), fun x => ?_⟩
  rw [swapD_at (by omega) (by omega), h.at_, h.at_, h.at_]
  by_cases x1 : k - 1 = x
  · rw [if_pos x1, if_neg (by omega), if_pos rfl, if_neg (by omega), if_pos x1.symm]
  · rw [if_neg x1]
    by_cases x2 : k = x
    · rw [if_pos x2, if_neg (by omega), if_neg (by omega), if_pos (by omega), x2]
    · rw [if_neg x2, if_neg (show ¬ x = k by omega), if_neg (show ¬ x = k - 1 by omega)]
      by_cases x3 : k < x ∧ x ≤ m
      · rw [if_pos x3, if_pos (by omega)]
      · rw [if_neg x3, if_neg (by omega)]
theorem Down.sorted (H : CmpOrd c) {l l' : List α} {a i m : Nat} (hai : a ≤ i) (him : i ≤ m) (hs : SortedOn c l a m) (h1 : ∀ k, a ≤ k → k < i → ¬ c (dat l m) (dat l k) < 0) (h2 : ∀ k, i ≤ k → k < m → c (dat l m) (dat l k) < 0)
    (h : Down l l' m i) : SameOut l l' a (m + 1) ∧ SortedOn c l' a (m + 1) := by
  refine ⟨h.same.wide hai (Nat.le_refl _), fun k hk1 hk2 => ?_⟩
  rw [h.at_, h.at_]
  by_cases k1 : i < k
  · rw [if_pos (by omega), if_pos (by omega)]
    have := hs (k - 1) (by omega) (by omega)
    rw [show k - 1 + 1 = k by omega] at this
    exact this
  · by_cases k2 : k = i
    · rw [if_neg (by omega), if_pos k2, if_pos (by omega)]
      exact Int.le_of_lt (h2 k (by omega) (by omega))
    · by_cases k3 : k + 1 = i
      · rw [if_neg (by omega), if_neg k2, if_neg (by omega), if_pos k3]
        have := h1 k (by omega) (by omega)
        have := H.anti (dat l m) (dat l k)
        omega
      · rw [if_neg (by omega), if_neg k2, if_neg (by omega), if_neg k3]
        exact hs k hk1 (by omega)

/-- where the search for the halves stands -/
structure Sm (c : α → α → Int) (l : List α) (p s0 r0 s r : Nat) : Prop where
  lo : s0 ≤ s
  sr : s ≤ r
  hi : r ≤ r0
  left : s = s0 ∨ ¬ c (dat l (p - (s - 1))) (dat l (s - 1)) < 0
  right : r = r0 ∨ c (dat l (p - r)) (dat l r) < 0
theorem Sm.start (l : List α) (p : Nat) {s0 r0 : Nat} (h : s0 ≤ r0) : Sm c l p s0 r0 s0 r0 := ⟨Nat.le_refl _, h, Nat.le_refl _, .inl rfl, .inl rfl⟩
theorem Sm.up {l : List α} {p s0 r0 s r x : Nat} (h : Sm c l p s0 r0 s r) (h1 : s ≤ x) (h2 : x < r) (hc : ¬ c (dat l (p - x)) (dat l x) < 0) : Sm c l p s0 r0 (x + 1) r :=
  ⟨by have := h.lo; omega, h2, h.hi, .inr (by rwa [show x + 1 - 1 = x by omega]), h.right⟩
theorem Sm.down {l : List α} {p s0 r0 s r x : Nat} (h : Sm c l p s0 r0 s r) (h1 : s ≤ x) (h2 : x < r) (hc : c (dat l (p - x)) (dat l x) < 0) : Sm c l p s0 r0 s x :=
  ⟨h.lo, h1, by have := h.hi; omega, h.left, .inr hc⟩

/-- behind the rotation: four parts, each in order, and what is left of mid at most what is right of it -/
structure Quart (c : α → α → Int) (l : List α) (a s mid e b : Nat) : Prop where
  p1 : SortedOn c l a s
  p2 : SortedOn c l s mid
  p3 : SortedOn c l mid e
  p4 : SortedOn c l e b
  le : ∀ i j, a ≤ i → i < mid → mid ≤ j → j < b → c (dat l i) (dat l j) ≤ 0
theorem Quart.of (H : CmpOrd c) {l l' : List α} {a s m e b mid : Nat} (h1 : a ≤ s) (h2 : s ≤ m) (h3 : m ≤ e) (h4 : e ≤ b) (hn : s + e = mid + m) (hL : SortedOn c l a m) (hR : SortedOn c l m b)
    (b1 : a < s → e < b → ¬ c (dat l e) (dat l (s - 1)) < 0) (b2 : m < e → s < m → c (dat l (e - 1)) (dat l s) < 0) (hr : ∀ k, dat l' k = rotAt l s m e k) : Quart c l' a s mid e b := by
  have r : ∀ k, dat l' k = if s ≤ k ∧ k < mid then dat l (m + (k - s)) else if mid ≤ k ∧ k < e then dat l (k - (e - m)) else dat l k := fun k => by
    rw [hr]
    unfold rotAt
    rw [show s + (e - m) = mid by omega]
  refine ⟨fun k k1 k2 => ?_, fun k k1 k2 => ?_, fun k k1 k2 => ?_, fun k k1 k2 => ?_, fun i j i1 i2 j1 j2 => ?_⟩
  · rw [r, r, if_neg (by omega), if_neg (by omega), if_neg (by omega), if_neg (by omega)]
    exact hL k k1 (by omega)
  · rw [r, r, if_pos (by omega), if_pos (by omega), show m + (k + 1 - s) = m + (k - s) + 1 by omega]
    exact hR _ (by omega) (by omega)
  · rw [r, r, if_neg (by omega), if_pos (by omega), if_neg (by omega), if_pos (by omega), show k + 1 - (e - m) = k - (e - m) + 1 by omega]
    exact hL _ (by omega) (by omega)
  · rw [r, r, if_neg (by omega), if_neg (by omega), if_neg (by omega), if_neg (by omega)]
    exact hR _ (by omega) (by omega)
  · rw [r i, r j]
    by_cases c1 : s ≤ i
    · rw [if_pos (by omega)]
      by_cases c2 : j < e
      · rw [if_neg (by omega), if_pos (by omega)]
        have q1 := hR.le H (i := m + (i - s)) (j := e - 1) (by omega) (by omega) (by omega)
        have q2 := b2 (by omega) (by omega)
        have q3 := hL.le H (i := s) (j := j - (e - m)) (by omega) (by omega) (by omega)
        exact H.trans q1 (H.trans (Int.le_of_lt q2) q3)
      · rw [if_neg (by omega), if_neg (by omega)]
        exact hR.le H (by omega) (by omega) (by omega)
    · rw [if_neg (by omega), if_neg (by omega)]
      by_cases c2 : j < e
      · rw [if_neg (by omega), if_pos (by omega)]
        exact hL.le H (by omega) (by omega) (by omega)
      · rw [if_neg (by omega), if_neg (by omega)]
        have q1 := hL.le H (i := i) (j := s - 1) (by omega) (by omega) (by omega)
        have q2 := b1 (by omega) (by omega)
        have q2' := H.anti (dat l e) (dat l (s - 1))
        have q3 := hR.le H (i := e) (j := j) (by omega) (by omega) (by omega)
        exact H.trans q1 (H.trans (by omega) q3)
/-- the search is over: where the halves part -/
theorem Sm.quart (H : CmpOrd c) {l : List α} {a m b mid s0 r0 s : Nat} (h : Sm c l (mid + m - 1) s0 r0 s s) (ham : a < m) (hmb : m < b) (hmid : mid = (a + b) / 2)
    (h0 : (mid < m ∧ s0 = mid + m - b ∧ r0 = mid) ∨ (m ≤ mid ∧ s0 = a ∧ r0 = m)) (hL : SortedOn c l a m) (hR : SortedOn c l m b) :
    a ≤ s ∧ s ≤ m ∧ s ≤ mid ∧ s ≤ mid + m ∧ m ≤ mid + m - s ∧ mid + m - s ≤ b ∧ mid ≤ mid + m - s ∧ ∀ l', (∀ k, dat l' k = rotAt l s m (mid + m - s) k) → Quart c l' a s mid (mid + m - s) b := by
  have g1 := h.lo
  have g2 := h.hi
  refine ⟨by omega, by omega, by omega, by omega, by omega, by omega, by omega, fun l' hr => Quart.of H (m := m) (by omega) (by omega) (by omega) (by omega) (by omega) hL hR (fun q1 q2 => ?_) (fun q1 q2 => ?_) hr⟩
  · rcases h.left with e | e
    · omega
    · rwa [show mid + m - 1 - (s - 1) = mid + m - s by omega] at e
  · rcases h.right with e | e
    · omega
    · rwa [show mid + m - 1 - s = mid + m - s - 1 by omega] at e
theorem Quart.done {l l1 l2 : List α} {a s mid e b : Nat} (h : Quart c l a s mid e b) (ham : a ≤ mid) (hmb : mid ≤ b) (h1 : SameOut l l1 a mid) (s1 : SortedOn c l1 a mid) (h2 : SameOut l1 l2 mid b) (s2 : SortedOn c l2 mid b) : SameOut l l2 a b ∧ SortedOn c l2 a b := by
  refine ⟨(h1.wide (Nat.le_refl _) hmb).trans (h2.wide ham (Nat.le_refl _)), fun k k1 k2 => ?_⟩
  by_cases c1 : k + 1 < mid
  · rw [h2.out k (by omega), h2.out (k + 1) (by omega)]
    exact s1 k k1 c1
  · by_cases c2 : k + 1 = mid
    · rw [h2.out k (by omega)]
      obtain ⟨i, i1, i2, e1⟩ := h1.inn k k1 (by omega)
      obtain ⟨j, j1, j2, e2⟩ := h2.inn (k + 1) (by omega) k2
      rw [e1, e2, h1.out j (by omega)]
      exact h.le i j i1 i2 j1 j2
    · exact s2 k (by omega) k2
theorem Quart.left_done {l : List α} {a s mid e b : Nat} (h : Quart c l a s mid e b) (hx : ¬ (a < s ∧ s < mid)) (h1 : a ≤ s) (h2 : s ≤ mid) : SortedOn c l a mid := by
  by_cases e1 : a = s
  · rw [e1]; exact h.p2
  · have : s = mid := by omega
    rw [← this]; exact h.p1
theorem Quart.right_done {l l' : List α} {a s mid e b : Nat} (h : Quart c l a s mid e b) (hs : SameOut l l' a mid) (hx : ¬ (mid < e ∧ e < b)) (h1 : mid ≤ e) (h2 : e ≤ b) : SortedOn c l' mid b := by
  refine SortedOn.congr (l := l) ?_ (fun k k1 _ => hs.out k (by omega))
  by_cases e1 : mid = e
  · rw [e1]; exact h.p4
  · have : e = b := by omega
    rw [← this]; exact h.p3
theorem Quart.right_parts {l l' : List α} {a s mid e b : Nat} (h : Quart c l a s mid e b) (hs : SameOut l l' a mid) (hm : mid ≤ e) : SortedOn c l' mid e ∧ SortedOn c l' e b :=
  ⟨h.p3.congr fun k k1 _ => hs.out k (by omega), h.p4.congr fun k k1 _ => hs.out k (by omega)⟩

/-! blocks -/
/-- blocks of x elements are in order, up to place a; behind it blocks of y elements -/
def Blocks (c : α → α → Int) (l : List α) (x y a n : Nat) : Prop := ∀ k, k + 1 < n → (k + 1) % (if k + 1 < a then x else y) ≠ 0 → c (dat l k) (dat l (k + 1)) ≤ 0
theorem mod_in {s u k : Nat} (h1 : s * u < k) (h2 : k < s * u + s) : k % s ≠ 0 := by
  rw [show k = s * u + (k - s * u) by omega, Nat.mul_add_mod, Nat.mod_eq_of_lt (by omega)]
  omega
/-- insertion sort of the block behind a -/
theorem Blocks.insert {l l' : List α} {s u a b : Nat} (ha : a = s * u) (hs : SameOut l l' a b) (hso : SortedOn c l' a b) (h : ∀ k, k + 1 < a → (k + 1) % s ≠ 0 → c (dat l k) (dat l (k + 1)) ≤ 0) : ∀ k, k + 1 < b → (k + 1) % s ≠ 0 → c (dat l' k) (dat l' (k + 1)) ≤ 0 := by
  intro k k1 k2
  by_cases c1 : k + 1 < a
  · rw [hs.out k (by omega), hs.out (k + 1) (by omega)]; exact h k c1 k2
  · by_cases c2 : k + 1 = a
    · exfalso
      rw [c2, ha, Nat.mul_mod_right] at k2
      exact k2 rfl
    · exact hso k (by omega) k1
theorem Blocks.parts {l : List α} {s u a b n : Nat} (h : Blocks c l (2 * s) s a n) (ha : a = 2 * s * u) (hb : b ≤ a + 2 * s) (hbn : b ≤ n) (hm : a + s ≤ b) : SortedOn c l a (a + s) ∧ SortedOn c l (a + s) b := by
  have e : 2 * s * u = s * (2 * u) := by rw [Nat.mul_comm 2 s, Nat.mul_assoc]
  have e2 : s * (2 * u + 1) = s * (2 * u) + s := Nat.mul_succ _ _
  refine ⟨fun k k1 k2 => ?_, fun k k1 k2 => ?_⟩
  · refine h k (by omega) ?_
    rw [if_neg (by omega)]
    exact mod_in (u := 2 * u) (by omega) (by omega)
  · refine h k (by omega) ?_
    rw [if_neg (by omega)]
    exact mod_in (u := 2 * u + 1) (by omega) (by omega)
theorem Blocks.merge {l l' : List α} {s u a b n : Nat} (h : Blocks c l (2 * s) s a n) (ha : a = 2 * s * u) (hab : a ≤ b) (hb : b = a + 2 * s ∨ b = n) (hs : SameOut l l' a b) (hso : SortedOn c l' a b) : Blocks c l' (2 * s) s b n := by
  intro k k1 k2
  by_cases c1 : k + 1 < a
  · rw [if_pos (by omega)] at k2
    rw [hs.out k (by omega), hs.out (k + 1) (by omega)]
    exact h k k1 (by rw [if_pos c1]; exact k2)
  · by_cases c2 : k + 1 = a
    · exfalso
      by_cases c3 : k + 1 < b
      · rw [if_pos c3, c2, ha, Nat.mul_mod_right] at k2
        exact k2 rfl
      · rw [if_neg c3, c2, ha, show 2 * s * u = s * (2 * u) by rw [Nat.mul_comm 2 s, Nat.mul_assoc], Nat.mul_mod_right] at k2
        exact k2 rfl
    · by_cases c3 : k + 1 < b
      · exact hso k (by omega) c3
      · rw [if_neg c3] at k2
        by_cases c4 : k + 1 = b
        · exfalso
          rcases hb with e | e
          · rw [c4, e, ha, show 2 * s * u + 2 * s = s * (2 * u + 2) by rw [Nat.mul_add, Nat.mul_comm 2 s, Nat.mul_assoc], Nat.mul_mod_right] at k2
            exact k2 rfl
          · omega
        · rw [hs.out k (by omega), hs.out (k + 1) (by omega)]
          exact h k k1 (by rw [if_neg (by omega)]; exact k2)
end
end Go.Proofs.YthejmnmkbldacaaGreatDoor

namespace Go.Proofs.YthejmnmkbldacaaGreatDoor
open Go.RowKit
attribute [local go_sem] Tab.Env.ev Tab.Env.get

theorem dval_lt {l : List Int} (h : Digits l) : dval l < 10 ^ l.length := by
  induction l with
  | nil => simp [dval]
  | cons d l ih =>
    have h1 := ih (fun x hx => h x (List.mem_cons_of_mem _ hx))
    have h2 := h d List.mem_cons_self
    unfold digit at h2
    simp only [dval, List.length_cons, Int.pow_succ]
    omega
theorem dval_ge {l : List Int} (h : Digits l) (hz : NoZero l) (hn : 0 < l.length) : 10 ^ (l.length - 1) ≤ dval l := by
  obtain ⟨r, d, rfl⟩ : ∃ r d, l = r ++ [d] := ⟨l.dropLast, l.getLast (by intro e; simp [e] at hn), (List.dropLast_concat_getLast _).symm⟩
  have hd0 : d ≠ 0 := hz d (by simp)
  have hd := h d (by simp)
  unfold digit at hd
  have hl := dval_nonneg (l := r) (fun x hx => h x (List.mem_append_left _ hx))
  rw [dval_append]
  simp only [dval, List.length_append, List.length_singleton, Nat.add_sub_cancel, Int.mul_zero, Int.add_zero]
  have := Int.mul_le_mul_of_nonneg_left (show (1 : Int) ≤ d by omega) (show (0 : Int) ≤ 10 ^ r.length from Int.le_of_lt (Int.pow_pos (by omega)))
  omega
theorem dval_len {l r : List Int} (h : Digits l) (h' : Digits r) (hz : NoZero r) (hlt : l.length < r.length) : dval l < dval r := by
  have h1 := dval_lt h
  have h2 := dval_ge h' hz (by omega)
  have h3 : (10 : Int) ^ l.length ≤ 10 ^ (r.length - 1) := by exact_mod_cast Nat.pow_le_pow_right (by omega) (by omega)
  omega
theorem dval_at {l r : List Int} (h : Digits l) (h' : Digits r) (hlen : l.length = r.length) {k : Nat} (hk : k < l.length) (he : l.drop (k + 1) = r.drop (k + 1)) (hlt : l.getD k 0 < r.getD k 0) : dval l < dval r := by
  have hk' : k < r.length := by omega
  have e1 : l = l.take k ++ (l.getD k 0 :: l.drop (k + 1)) := by
    rw [List.getD_eq_getElem?_getD, List.getElem?_eq_getElem hk]
    exact (List.take_append_drop k l).symm.trans (by rw [List.drop_eq_getElem_cons hk]; rfl)
  have e2 : r = r.take k ++ (r.getD k 0 :: r.drop (k + 1)) := by
    rw [List.getD_eq_getElem?_getD, List.getElem?_eq_getElem hk']
    exact (List.take_append_drop k r).symm.trans (by rw [List.drop_eq_getElem_cons hk']; rfl)
  have t1 := dval_lt (l := l.take k) (fun x hx => h x (List.mem_of_mem_take hx))
  have t2 := dval_nonneg (l := r.take k) (fun x hx => h' x (List.mem_of_mem_take hx))
  have v1 : dval l = dval (l.take k) + 10 ^ k * (l.getD k 0 + 10 * dval (l.drop (k + 1))) := by
    conv => lhs; rw [e1]
    rw [dval_append, dval, List.length_take, Nat.min_eq_left (by omega)]
  have v2 : dval r = dval (r.take k) + 10 ^ k * (r.getD k 0 + 10 * dval (r.drop (k + 1))) := by
    conv => lhs; rw [e2]
    rw [dval_append, dval, List.length_take, Nat.min_eq_left (by omega)]
  rw [List.length_take, Nat.min_eq_left (by omega)] at t1
  rw [v1, v2, he]
  generalize dval (r.drop (k + 1)) = q at *
  have := Int.mul_le_mul_of_nonneg_left (show l.getD k 0 + 10 * q + 1 ≤ r.getD k 0 + 10 * q by omega) (show (0 : Int) ≤ 10 ^ k from Int.le_of_lt (Int.pow_pos (by omega)))
  rw [Int.mul_add] at this
  omega

/-- a number whose sign says how two others compare -/
def SignOf (z a b : Int) : Prop := (z < 0 ∧ a < b) ∨ (z = 0 ∧ a = b) ∨ (0 < z ∧ b < a)

theorem digit_at {l : List Int} (h : Digits l) {k : Nat} (hk : k < l.length) : digit (l.getD k 0) := by
  rw [List.getD_eq_getElem?_getD, List.getElem?_eq_getElem hk]
  exact h _ (List.getElem_mem hk)

set_option maxHeartbeats 1000000 in
theorem most_any (A A' : Option Addr) (c c' : Nat) (l r : List Int) (w : World) (h1 : DS w A l c) (h2 : DS w A' r c') (hd : Digits l) (hd' : Digits r) (hz : NoZero l) (hz' : NoZero r) (hl : l.length ≤ 40) (hl' : r.length ≤ 40) :
    Calls Tryz.prog 221 #[.slice A l.length c, .slice A' r.length c'] w fun e w' => ∃ z, e = .returned (.int .i64 z) ∧ SignOf z (dval l) (dval r) ∧ (-100 ≤ z ∧ z ≤ 100) ∧ Below w.heap.size w w' := by
  have H1 := Lib.hid h1
  have H2 := Lib.hid h2
  have hm1 := h1.1
  have hm2 := h1.2.1
  have hm3 := h2.1
  have hm4 := h2.2.1
  unfold maxLen at hm2 hm4
  have HD := Lib.hid hd
  have HD' := Lib.hid hd'
  clear h1 h2
  by_cases hne : l.length = r.length
  · have e1 : ((l.length : Int) != r.length) = false := by simp; omega
    obtain ⟨n, hn⟩ : ∃ n, l.length = n := ⟨_, rfl⟩
    have hn' : r.length = n := by omega
    have HL := Lib.hid hn
    have HL' := Lib.hid hn'
    have HC := Lib.hid H1.out.2.2
    have HC' := Lib.hid H2.out.2.2
    rw [hn] at hm1 hl e1
    rw [hn'] at hm3 hl' e1
    rw [hn, hn']
    clear hne hd hd' hz hz' hn hn' H1 H2
    go_enter Tryz.func221, Tryz.ntmps221
    go_wp2_with fail
    go_loopw [5] (fun i wr => ∃ k : Nat, k ≤ n ∧ i = .int .i64 ((k : Int) - 1) ∧ l.drop k = r.drop k ∧ Below w.heap.size w wr) (fun i _ => (intOf i + 1).toNat)
    case atStart => exact ⟨n, Nat.le_refl _, rfl, by rw [List.drop_of_length_le (by rw [HL.out]; exact Nat.le_refl _), List.drop_of_length_le (by rw [HL'.out]; exact Nat.le_refl _)], Below.refl _ _⟩
    case round =>
      obtain ⟨k, hk, rfl, hdr, hbel⟩ := hrel
      have HDR := Lib.hid hdr
      clear hdr
      rcases k with _ | j
      · have HE := Lib.hid (show l = r by simpa using HDR.out)
        go_wp2_with fail
        go_ret
        exact ⟨0, rfl, .inr (.inl ⟨rfl, by rw [HE.out]⟩), by omega, hbel⟩
      · rw [show ((j + 1 : Nat) : Int) - 1 = j by omega]
        obtain ⟨b1, o1, rfl, hb1, hc1⟩ := HC.out (by rw [HL.out]; omega)
        obtain ⟨b2, o2, rfl, hb2, hc2⟩ := HC'.out (by rw [HL'.out]; omega)
        have d1 := digit_at HD.out (k := j) (by rw [HL.out]; omega)
        have d2 := digit_at HD'.out (k := j) (by rw [HL'.out]; omega)
        have C1 := (hbel.cell (p := ⟨b1, o1 + j, none⟩) hb1).trans (hc1 j (by rw [HL.out]; omega))
        have C2 := (hbel.cell (p := ⟨b2, o2 + j, none⟩) hb2).trans (hc2 j (by rw [HL'.out]; omega))
        obtain ⟨x, hx⟩ : ∃ x, l.getD j 0 = x := ⟨_, rfl⟩
        obtain ⟨y, hy⟩ : ∃ y, r.getD j 0 = y := ⟨_, rfl⟩
        have HX := Lib.hid hx
        have HY := Lib.hid hy
        rw [hx] at C1 d1
        rw [hy] at C2 d2
        unfold digit at d1 d2
        clear hc1 hc2 hx hy
        by_cases hxy : x = y
        · have e2 : (x != y) = false := by simp [hxy]
          have HXY := Lib.hid hxy
          clear hxy
          go_wp2_with fail
          go_quiet (fail)
          go_wp2_with fail
          go_roundw
          case rel => exact ⟨j, by omega, rfl, by
            rw [List.drop_eq_getElem_cons (by rw [HL.out]; omega), List.drop_eq_getElem_cons (l := r) (by rw [HL'.out]; omega), HDR.out]
            congr 1
            have h1 := HX.out
            have h2 := HY.out
            rw [List.getD_eq_getElem?_getD, List.getElem?_eq_getElem (by rw [HL.out]; omega)] at h1
            rw [List.getD_eq_getElem?_getD, List.getElem?_eq_getElem (by rw [HL'.out]; omega)] at h2
            exact h1.trans (HXY.out.trans h2.symm), below_drewN hbel _⟩
          case measure => simp [intOf]
        · have e2 : (x != y) = true := by simp [hxy]
          have HXY := Lib.hid hxy
          clear hxy
          go_wp2_with fail
          go_quiet (fail)
          go_wp2_with fail
          go_quiet (fail)
          go_wp2_with fail
          go_ret
          refine ⟨_, rfl, ?_, by omega, below_drewN (below_drewN hbel _) _⟩
          rcases Int.lt_or_le x y with hlt | hge
          · exact .inl ⟨by omega, dval_at HD.out HD'.out (by rw [HL.out, HL'.out]) (k := j) (by rw [HL.out]; omega) HDR.out (by rw [HX.out, HY.out]; exact hlt)⟩
          · have := HXY.out
            exact .inr (.inr ⟨by omega, dval_at HD'.out HD.out (by rw [HL.out, HL'.out]) (k := j) (by rw [HL'.out]; omega) HDR.out.symm (by rw [HX.out, HY.out]; omega)⟩)
  · have e1 : ((l.length : Int) != r.length) = true := by simp; omega
    have HN := Lib.hid hne
    have HZ := Lib.hid hz
    have HZ' := Lib.hid hz'
    clear hne hd hd' hz hz'
    go_enter Tryz.func221, Tryz.ntmps221
    go_wp2_with fail
    go_ret
    refine ⟨_, rfl, ?_, by omega, Below.refl _ _⟩
    have := HN.out
    rcases Nat.lt_or_ge l.length r.length with hlt | hge
    · exact .inl ⟨by omega, dval_len HD.out HD'.out HZ'.out hlt⟩
    · exact .inr (.inr ⟨by omega, dval_len HD'.out HD.out HZ.out (by omega)⟩)

theorem cmpI_signOf {z a b : Int} (h : SignOf z a b) : cmpI a b = if z < 0 then -1 else if 0 < z then 1 else 0 := by
  rcases h with ⟨h1, h2⟩ | ⟨h1, h2⟩ | ⟨h1, h2⟩
  · rw [cmpI_lt h2, if_pos h1]
  · rw [cmpI_eq h2, if_neg (by omega), if_neg (by omega)]
  · rw [cmpI_gt h2, if_neg (by omega), if_pos h1]

set_option maxHeartbeats 1000000 in
theorem compareWide_any (base base' : Nat) (v v' : Value) (s s' : Int) (w : World) (h1 : RV base w v s) (h2 : RV base' w v' s') :
    Calls Tryz.prog 189 #[v, v'] w fun e w' => e = .returned (.int .i64 (cmpI s s')) ∧ Below w.heap.size w w' := by
  obtain ⟨l, ⟨A, c, rfl, hds, -⟩, hd, hz, hv, hl⟩ := h1
  obtain ⟨r, ⟨A', c', rfl, hds', -⟩, hd', hz', hv', hl'⟩ := h2
  by_cases hb : (decide (s < 0)) = (decide (s' < 0))
  · obtain ⟨neg, hneg⟩ : ∃ neg, decide (s < 0) = neg := ⟨_, rfl⟩
    have hneg' : decide (s' < 0) = neg := by rw [← hb]; exact hneg
    rw [hneg, hneg']
    have HS := Lib.hid (show ∀ z, SignOf z (dval l) (dval r) → -100 ≤ z ∧ z ≤ 100 → cmpI s s' = (if (if neg then -z else z) < 0 then -1 else if 0 < (if neg then -z else z) then 1 else 0) by
      intro z hsz _
      refine cmpI_signOf (z := if neg then -z else z) ?_
      unfold SignOf at hsz ⊢
      rw [hv, hv'] at hsz
      cases neg
      · simp at hneg hneg' ⊢
        omega
      · simp at hneg hneg' ⊢
        omega)
    have HD := Lib.hid hds
    have HD' := Lib.hid hds'
    have HM := Lib.hid (fun w' (h : Below w.heap.size w w') => most_any A A' c c' l r w' (HD.out.later h) (HD'.out.later h) hd hd' hz hz' hl hl')
    have e1 : (neg != neg) = false := by simp
    clear hds hds' hd hd' hz hz' hv hv' hneg hneg' hb HD HD'
    go_enter Tryz.func189, Tryz.ntmps189
    go_wp2_with fail
    have hbel : Below w.heap.size w ((w.alloc (.cells #[.bool neg, .slice A l.length c] 232)).alloc (.cells #[.bool neg, .slice A' r.length c'] 232)) := (below_new w _).alloc (by simp) _
    have B0 : Blk ((w.alloc (.cells #[.bool neg, .slice A l.length c] 232)).alloc (.cells #[.bool neg, .slice A' r.length c'] 232)) w.heap.size 232 [.bool neg, .slice A l.length c] := (Blk.new w _ _).alloc _
    refine (HM.out _ hbel).mono ?_
    rintro e w1 ⟨z, rfl, hsz, hzb, hb⟩
    have HZ := Lib.hid (HS.out z hsz hzb)
    have q0 := wcell2 (B0.below hb B0.lt)
    have hbel1 := hbel.trans (hb.mono hbel.size)
    clear hb hbel hsz HS HM B0
    cases neg
    · simp only [Bool.false_eq_true, if_false] at HZ
      by_cases c1 : z < 0
      · have HR := Lib.hid (show cmpI s s' = -1 by rw [HZ.out, if_pos c1])
        clear HZ
        go_wp2_with fail
        go_ret
        exact ⟨ret_int HR.out.symm, hbel1⟩
      · by_cases c2 : 0 < z
        · have HR := Lib.hid (show cmpI s s' = 1 by rw [HZ.out, if_neg c1, if_pos c2])
          clear HZ
          go_wp2_with fail
          go_ret
          exact ⟨ret_int HR.out.symm, hbel1⟩
        · have HR := Lib.hid (show cmpI s s' = 0 by rw [HZ.out, if_neg c1, if_neg c2])
          clear HZ
          go_wp2_with fail
          go_ret
          exact ⟨ret_int HR.out.symm, hbel1⟩
    · simp only [if_true] at HZ
      by_cases c1 : -z < 0
      · have HR := Lib.hid (show cmpI s s' = -1 by rw [HZ.out, if_pos c1])
        clear HZ
        go_wp2_with fail
        go_ret
        exact ⟨ret_int HR.out.symm, hbel1⟩
      · by_cases c2 : 0 < -z
        · have HR := Lib.hid (show cmpI s s' = 1 by rw [HZ.out, if_neg c1, if_pos c2])
          clear HZ
          go_wp2_with fail
          go_ret
          exact ⟨ret_int HR.out.symm, hbel1⟩
        · have HR := Lib.hid (show cmpI s s' = 0 by rw [HZ.out, if_neg c1, if_neg c2])
          clear HZ
          go_wp2_with fail
          go_ret
          exact ⟨ret_int HR.out.symm, hbel1⟩
  · by_cases hs : s < 0
    · have hs' : ¬ s' < 0 := fun h => hb (by rw [decide_eq_true hs, decide_eq_true h])
      rw [decide_eq_true hs, decide_eq_false hs']
      have HR := Lib.hid (show cmpI s s' = -1 from cmpI_lt (by omega))
      clear hds hds' hd hd' hz hz' hv hv' hb hs hs'
      go_enter Tryz.func189, Tryz.ntmps189
      go_wp2_with fail
      go_ret
      exact ⟨ret_int HR.out.symm, (below_new w _).alloc (by simp) _⟩
    · have hs' : s' < 0 := by
        rcases Int.lt_or_le s' 0 with h | h
        · exact h
        · exact absurd (by rw [decide_eq_false hs, decide_eq_false (by omega)]) hb
      rw [decide_eq_false hs, decide_eq_true hs']
      have HR := Lib.hid (show cmpI s s' = 1 from cmpI_gt (by omega))
      clear hds hds' hd hd' hz hz' hv hv' hb hs hs'
      go_enter Tryz.func189, Tryz.ntmps189
      go_wp2_with fail
      go_ret
      exact ⟨ret_int HR.out.symm, (below_new w _).alloc (by simp) _⟩
end Go.Proofs.YthejmnmkbldacaaGreatDoor
