/-
  What is proved: the plain law of adding up a sorted list: neighbours that compare equal become one, with the sum of their numbers; and that such a list is known by its totals. Conditions: the order is a total preorder. No program in sight.
  What is proved: (no program in sight) the reference's way to canonical lists, row by row, gives the lists that the program's way gives. Conditions: none.
  What is proved: a call of a function value in a region that draws; how a list of differences lies in memory. Conditions: none.
  What is proved: slices that read as a list of cells, and what append does with them. Conditions: none. No program in sight.
  What is proved: slices.Clone, slices.Clip of differences, of values, of rows. Conditions: none.
-/
import Derived.Test.YthejmnmkbldacaaGreatDoorGm11
import Derived.Test.YthejmnmkbldacaaGreatDoorGm08
set_option linter.all false
namespace Go.Proofs.YthejmnmkbldacaaGreatDoor
open Go Go.RowKit

section
variable {α : Type}
/-- elements with a number that the order does not look at -/
structure Cnt (c : α → α → Int) (n : α → Int) (s : α → Int → α) : Prop where
  ord : CmpOrd c
  ns : ∀ x m, n (s x m) = m
  ss : ∀ x m k, s (s x m) k = s x k
  sn : ∀ x, s x (n x) = x
  cs : ∀ x m y, c (s x m) y = c x y
def sumN (n : α → Int) : List α → Int
  | [] => 0
  | d :: l => n d + sumN n l
def absN (n : α → Int) : List α → Int
  | [] => 0
  | d :: l => (n d).natAbs + absN n l
/-- the numbers of those that compare equal to r -/
def tot (c : α → α → Int) (n : α → Int) (r : α) : List α → Int
  | [] => 0
  | d :: l => (if c d r = 0 then n d else 0) + tot c n r l
variable {c : α → α → Int} {n : α → Int} {s : α → Int → α}
theorem sumN_append (l r : List α) : sumN n (l ++ r) = sumN n l + sumN n r := by
  induction l with
  | nil => simp [sumN]
  | cons d l ih => simp only [List.cons_append, sumN, ih]; omega
theorem absN_append (l r : List α) : absN n (l ++ r) = absN n l + absN n r := by
  induction l with
  | nil => simp [absN]
  | cons d l ih => simp only [List.cons_append, absN, ih]; omega
theorem tot_append (x : α) (l r : List α) : tot c n x (l ++ r) = tot c n x l + tot c n x r := by
  induction l with
  | nil => simp [tot]
  | cons d l ih => simp only [List.cons_append, tot, ih]; omega
theorem absN_nonneg (l : List α) : 0 ≤ absN n l := by
  induction l with
  | nil => simp [absN]
  | cons d l ih => simp only [absN]; omega
theorem sumN_abs (l : List α) : (sumN n l).natAbs ≤ absN n l := by
  induction l with
  | nil => simp [sumN, absN]
  | cons d l ih => simp only [sumN, absN]; omega
theorem absN_mem {l : List α} {d : α} (h : d ∈ l) : (n d).natAbs ≤ absN n l := by
  induction l with
  | nil => cases h
  | cons e l ih =>
    have := absN_nonneg (n := n) l
    simp only [absN]
    rcases List.mem_cons.1 h with rfl | h
    · omega
    · have := ih h; omega
theorem sumN_perm {l r : List α} (h : l.Perm r) : sumN n l = sumN n r := by
  induction h with
  | nil => rfl
  | cons x _ ih => simp only [sumN, ih]
  | swap x y l => simp only [sumN]; omega
  | trans _ _ h1 h2 => exact h1.trans h2
theorem absN_perm {l r : List α} (h : l.Perm r) : absN n l = absN n r := by
  induction h with
  | nil => rfl
  | cons x _ ih => simp only [absN, ih]
  | swap x y l => simp only [absN]; omega
  | trans _ _ h1 h2 => exact h1.trans h2
theorem tot_perm (x : α) {l r : List α} (h : l.Perm r) : tot c n x l = tot c n x r := by
  induction h with
  | nil => rfl
  | cons x _ ih => simp only [tot, ih]
  | swap x y l => simp only [tot]; omega
  | trans _ _ h1 h2 => exact h1.trans h2
theorem CmpOrd.eq_trans (H : CmpOrd c) {a b d : α} (h1 : c a b = 0) (h2 : c b d = 0) : c a d = 0 := by
  have t1 := H.trans (Int.le_of_eq h1) (Int.le_of_eq h2)
  have e1 := H.anti a b
  have e2 := H.anti b d
  have t2 := H.trans (a := d) (b := b) (d := a) (by omega) (by omega)
  have e3 := H.anti a d
  omega
theorem CmpOrd.lt_of_lt_le (H : CmpOrd c) {a b d : α} (h1 : c a b < 0) (h2 : c b d ≤ 0) : c a d < 0 := by
  have t1 := H.trans (Int.le_of_lt h1) h2
  rcases Int.lt_or_lt_of_ne (show c a d ≠ 0 from fun e => by
    have e1 := H.anti a d
    have t2 := H.trans (a := b) (b := d) (d := a) h2 (by omega)
    have e2 := H.anti a b
    omega) with h | h
  · exact h
  · omega
theorem CmpOrd.lt_of_le_lt (H : CmpOrd c) {a b d : α} (h1 : c a b ≤ 0) (h2 : c b d < 0) : c a d < 0 := by
  have t1 := H.trans h1 (Int.le_of_lt h2)
  rcases Int.lt_or_lt_of_ne (show c a d ≠ 0 from fun e => by
    have e1 := H.anti a d
    have t2 := H.trans (a := d) (b := a) (d := b) (by omega) h1
    have e2 := H.anti b d
    omega) with h | h
  · exact h
  · omega
theorem tot_congr (H : CmpOrd c) {x y : α} (h : c x y = 0) (l : List α) : tot c n x l = tot c n y l := by
  induction l with
  | nil => rfl
  | cons d l ih =>
    simp only [tot, ih]
    have e : c d x = 0 ↔ c d y = 0 := ⟨fun k => H.eq_trans k h, fun k => H.eq_trans k (by have := H.anti x y; omega)⟩
    by_cases k : c d x = 0
    · rw [if_pos k, if_pos (e.1 k)]
    · rw [if_neg k, if_neg (fun k' => k (e.2 k'))]
theorem tot_zero {x : α} {l : List α} (h : ∀ d, d ∈ l → c d x ≠ 0) : tot c n x l = 0 := by
  induction l with
  | nil => rfl
  | cons d l ih =>
    simp only [tot]
    rw [if_neg (h d List.mem_cons_self), ih fun e he => h e (List.mem_cons_of_mem _ he)]
    rfl

/-- strictly in order -/
def Strict (c : α → α → Int) (l : List α) : Prop := l.Pairwise fun a b => c a b < 0
theorem tot_strict (H : CmpOrd c) {l : List α} (h : Strict c l) {d : α} (hd : d ∈ l) : tot c n d l = n d := by
  induction l with
  | nil => cases hd
  | cons e l ih =>
    have hp := List.pairwise_cons.1 h
    simp only [tot]
    rcases List.mem_cons.1 hd with rfl | hd'
    · rw [if_pos (H.self d), tot_zero fun x hx => ?_]
      · omega
      · have := hp.1 x hx
        have := H.anti d x
        omega
    · rw [if_neg (by have := hp.1 d hd'; omega), ih hp.2 hd']
      omega

/-- where the adding up stands -/
structure Grp (c : α → α → Int) (n : α → Int) (s : α → Int → α) (pre out : List α) : Prop where
  mem : ∀ x, x ∈ out → ∃ e, e ∈ pre ∧ x = s e (n x)
  strict : Strict c out
  last : pre ≠ [] → ∃ x y, out.getLast? = some x ∧ pre.getLast? = some y ∧ c x y = 0
  tot : ∀ r, tot c n r out = tot c n r pre
  sum : sumN n out = sumN n pre
  abs : absN n out ≤ absN n pre
  len : out.length ≤ pre.length
theorem Grp.start : Grp c n s ([] : List α) [] := ⟨fun _ h => (by cases h), List.Pairwise.nil, fun h => absurd rfl h, fun _ => rfl, rfl, Int.le_refl _, Nat.le_refl _⟩
theorem Grp.empty {pre : List α} (h : Grp c n s pre []) : pre = [] := by
  cases pre with
  | nil => rfl
  | cons a l =>
    obtain ⟨x, y, hx, _⟩ := h.last (by simp)
    cases hx
/-- a new one -/
theorem Grp.new (H : Cnt c n s) {pre out : List α} {d : α} (h : Grp c n s pre out) (hs : ∀ y, pre.getLast? = some y → c y d ≤ 0) (hn : ∀ x, out.getLast? = some x → c x d ≠ 0) : Grp c n s (pre ++ [d]) (out ++ [d]) where
  mem x hx := by
    rcases List.mem_append.1 hx with hx | hx
    · obtain ⟨e, he, h1⟩ := h.mem x hx
      exact ⟨e, List.mem_append_left _ he, h1⟩
    · rw [List.mem_singleton.1 hx]
      exact ⟨d, by simp, (H.sn d).symm⟩
  strict := by
    refine List.pairwise_append.2 ⟨h.strict, List.pairwise_singleton _ _, fun a ha b hb => ?_⟩
    rw [List.mem_singleton.1 hb]
    have hne : pre ≠ [] := by
      obtain ⟨e, he, _⟩ := h.mem a ha
      exact List.ne_nil_of_mem he
    obtain ⟨x, y, hx, hy, hxy⟩ := h.last hne
    have h1 : c x d < 0 := by
      have h2 := H.ord.trans (Int.le_of_eq hxy) (hs y hy)
      have := hn x hx
      omega
    have h2 : c a x ≤ 0 := by
      obtain ⟨o, rfl⟩ : ∃ o, out = o ++ [x] := by
        have := List.getLast?_eq_some_iff.1 hx
        exact this
      rcases List.mem_append.1 ha with ha | ha
      · exact Int.le_of_lt ((List.pairwise_append.1 h.strict).2.2 a ha x (by simp))
      · rw [List.mem_singleton.1 ha]; exact Int.le_of_eq (H.ord.self x)
    exact H.ord.lt_of_le_lt h2 h1
  last _ := ⟨d, d, by simp, by simp, H.ord.self d⟩
  tot r := by rw [tot_append, tot_append, h.tot]
  sum := by rw [sumN_append, sumN_append, h.sum]
  abs := by rw [absN_append, absN_append]; have := h.abs; omega
  len := by have := h.len; simp; omega
/-- one that is there -/
theorem Grp.add (H : Cnt c n s) {pre out : List α} {x d : α} (h : Grp c n s pre (out ++ [x])) (he : c x d = 0) : Grp c n s (pre ++ [d]) (out ++ [s x (n x + n d)]) where
  mem y hy := by
    rcases List.mem_append.1 hy with hy | hy
    · obtain ⟨e, he, h1⟩ := h.mem y (List.mem_append_left _ hy)
      exact ⟨e, List.mem_append_left _ he, h1⟩
    · rw [List.mem_singleton.1 hy]
      obtain ⟨e, he, h1⟩ := h.mem x (by simp)
      refine ⟨e, List.mem_append_left _ he, ?_⟩
      rw [h1, H.ss, H.ns, H.ns]
  strict := by
    obtain ⟨p1, _, p2⟩ := List.pairwise_append.1 h.strict
    refine List.pairwise_append.2 ⟨p1, List.pairwise_singleton _ _, fun a ha b hb => ?_⟩
    rw [List.mem_singleton.1 hb]
    have h1 := p2 a ha x (by simp)
    have e1 := H.ord.anti (s x (n x + n d)) a
    rw [H.cs] at e1
    have e2 := H.ord.anti x a
    omega
  last _ := ⟨s x (n x + n d), d, by simp, by simp, by rw [H.cs]; exact he⟩
  tot r := by
    have := h.tot r
    rw [tot_append] at this
    rw [tot_append, tot_append, ← this]
    simp only [Go.Proofs.YthejmnmkbldacaaGreatDoor.tot, H.cs, H.ns]
    have e : c d r = 0 ↔ c x r = 0 := ⟨fun k => H.ord.eq_trans he k, fun k => H.ord.eq_trans (by have := H.ord.anti x d; omega) k⟩
    by_cases k : c x r = 0
    · rw [if_pos k, if_pos k, if_pos (e.2 k)]; omega
    · rw [if_neg k, if_neg k, if_neg (fun k' => k (e.1 k'))]; omega
  sum := by
    have := h.sum
    rw [sumN_append] at this
    rw [sumN_append, sumN_append, ← this]
    simp only [sumN, H.ns]
    omega
  abs := by
    have := h.abs
    rw [absN_append] at this
    rw [absN_append, absN_append]
    simp only [absN, H.ns] at this ⊢
    omega
  len := by have := h.len; simp at this ⊢; omega

/-- what a canonical list is of a list -/
structure Canon (c : α → α → Int) (n : α → Int) (s : α → Int → α) (l out : List α) : Prop where
  mem : ∀ x, x ∈ out → ∃ e, e ∈ l ∧ x = s e (n x)
  strict : Strict c out
  nz : ∀ x, x ∈ out → n x ≠ 0
  tot : ∀ r, tot c n r out = tot c n r l
  sum : sumN n out = sumN n l
  abs : absN n out ≤ absN n l
  len : out.length ≤ l.length
theorem tot_filter (r : α) (l : List α) : tot c n r (l.filter fun d => n d ≠ 0) = tot c n r l := by
  induction l with
  | nil => rfl
  | cons d l ih =>
    rw [List.filter_cons]
    by_cases h : n d = 0
    · rw [if_neg (by simp [h]), ih]
      simp only [tot]
      rw [h]
      by_cases k : c d r = 0
      · rw [if_pos k]; omega
      · rw [if_neg k]; omega
    · simp only [h, ne_eq, not_false_eq_true, decide_true, if_true, tot, ih]
theorem sumN_filter (l : List α) : sumN n (l.filter fun d => n d ≠ 0) = sumN n l := by
  induction l with
  | nil => rfl
  | cons d l ih =>
    rw [List.filter_cons]
    by_cases h : n d = 0
    · rw [if_neg (by simp [h]), ih]
      simp only [sumN]
      omega
    · simp only [h, ne_eq, not_false_eq_true, decide_true, if_true, sumN, ih]
theorem absN_filter (p : α → Bool) (l : List α) : absN n (l.filter p) ≤ absN n l := by
  induction l with
  | nil => exact Int.le_refl _
  | cons d l ih =>
    rw [List.filter_cons]
    by_cases h : p d = true
    · simp only [h, if_true, absN]; omega
    · simp only [h, if_false, absN, Bool.false_eq_true]; omega
theorem Grp.canon {l pre out : List α} (h : Grp c n s pre out) (hp : pre.Perm l) : Canon c n s l (out.filter fun d => n d ≠ 0) where
  mem x hx := by
    obtain ⟨e, he, h1⟩ := h.mem x (List.mem_filter.1 hx).1
    exact ⟨e, hp.mem_iff.1 he, h1⟩
  strict := h.strict.filter _
  nz x hx := by simpa using (List.mem_filter.1 hx).2
  tot r := by rw [tot_filter, h.tot, tot_perm r hp]
  sum := by rw [sumN_filter, h.sum, sumN_perm hp]
  abs := Int.le_trans (absN_filter _ _) (by rw [← absN_perm hp]; exact h.abs)
  len := Nat.le_trans (List.length_filter_le _ _) (Nat.le_trans h.len (Nat.le_of_eq hp.length_eq))
/-- the same rows with the same numbers -/
def Same (c : α → α → Int) (n : α → Int) : List α → List α → Prop
  | [], [] => True
  | a :: l, b :: r => c a b = 0 ∧ n a = n b ∧ Same c n l r
  | _, _ => False
theorem same_of_tot (H : CmpOrd c) : ∀ {l r : List α}, Strict c l → Strict c r → (∀ x, x ∈ l → n x ≠ 0) → (∀ x, x ∈ r → n x ≠ 0) → (∀ x, tot c n x l = tot c n x r) → Same c n l r
  | [], [], _, _, _, _, _ => trivial
  | [], b :: r, _, hr, _, zr, ht => by
    have h1 := tot_strict (n := n) H hr (d := b) (by simp)
    rw [← ht b] at h1
    exact absurd h1.symm (zr b (by simp))
  | a :: l, [], hl, _, zl, _, ht => by
    have h1 := tot_strict (n := n) H hl (d := a) (by simp)
    rw [ht a] at h1
    exact absurd h1.symm (zl a (by simp))
  | a :: l, b :: r, hl, hr, zl, zr, ht => by
    obtain ⟨pl, ql⟩ := List.pairwise_cons.1 hl
    obtain ⟨pr, qr⟩ := List.pairwise_cons.1 hr
    have ha := tot_strict (n := n) H hl (d := a) (by simp)
    have hb := tot_strict (n := n) H hr (d := b) (by simp)
    have hab : c a b = 0 := by
      rcases Int.lt_or_lt_of_ne (a := c a b) (b := 0) |> fun f => (Classical.em (c a b = 0)).imp_right f with h | h | h
      · exact h
      · exfalso
        have := ht a
        rw [ha, tot_zero fun d hd => ?_] at this
        · exact zl a (by simp) this
        · have e1 : c a d < 0 := by
            rcases List.mem_cons.1 hd with rfl | hd
            · exact h
            · exact H.lt_of_lt_le h (Int.le_of_lt (pr d hd))
          have := H.anti a d
          omega
      · exfalso
        have h' : c b a < 0 := by have := H.anti a b; omega
        have := ht b
        rw [hb, tot_zero fun d hd => ?_] at this
        · exact zr b (by simp) this.symm
        · have e1 : c b d < 0 := by
            rcases List.mem_cons.1 hd with rfl | hd
            · exact h'
            · exact H.lt_of_lt_le h' (Int.le_of_lt (pl d hd))
          have := H.anti b d
          omega
    have hn : n a = n b := by rw [← ha, ht a, tot_congr H hab, hb]
    refine ⟨hab, hn, same_of_tot H ql qr (fun x hx => zl x (List.mem_cons_of_mem _ hx)) (fun x hx => zr x (List.mem_cons_of_mem _ hx)) fun x => ?_⟩
    have := ht x
    simp only [tot] at this
    have e : c a x = 0 ↔ c b x = 0 := ⟨fun k => H.eq_trans (by have := H.anti a b; omega) k, fun k => H.eq_trans hab k⟩
    by_cases k : c a x = 0
    · rw [if_pos k, if_pos (e.1 k)] at this; omega
    · rw [if_neg k, if_neg (fun k' => k (e.2 k'))] at this; omega
end
end Go.Proofs.YthejmnmkbldacaaGreatDoor

namespace Go.Proofs.YthejmnmkbldacaaGreatDoor
open Go Go.RowKit
section
variable {α : Type} {c : α → α → Int} {n : α → Int} {s : α → Int → α}

theorem Cnt.sc (H : Cnt c n s) (x y : α) (m : Int) : c y (s x m) = c y x := by rw [H.ord.anti (s x m) y, H.cs, ← H.ord.anti x y]
theorem Cnt.scc (H : Cnt c n s) (x y : α) (m k : Int) : c (s x m) (s y k) = c x y := by rw [H.cs, H.sc]

/-- the different elements of a list, in increasing order, with no number -/
structure DiffI (c : α → α → Int) (s : α → Int → α) (l es : List α) : Prop where
  strict : Strict c es
  mem : ∀ x, x ∈ es → ∃ d, d ∈ l ∧ x = s d 0
  all : ∀ d, d ∈ l → ∃ x, x ∈ es ∧ c x d = 0
theorem DiffI.nil : DiffI c s ([] : List α) [] := ⟨List.Pairwise.nil, fun _ h => (nomatch h), fun _ h => (nomatch h)⟩
theorem DiffI.skip {pre es : List α} {x d : α} (h : DiffI c s pre es) (hx : x ∈ es) (he : c x d = 0) : DiffI c s (pre ++ [d]) es :=
  ⟨h.strict, fun y hy => by obtain ⟨e, he, h1⟩ := h.mem y hy; exact ⟨e, List.mem_append_left _ he, h1⟩, fun y hy => by
    rcases List.mem_append.1 hy with hy | hy
    · exact h.all y hy
    · rw [List.mem_singleton.1 hy]; exact ⟨x, hx, he⟩⟩
theorem DiffI.ins (H : Cnt c n s) {pre es : List α} {d : α} (h : DiffI c s pre es) {k : Nat} (h1 : ∀ j (hj : j < es.length), j < k → c es[j] d < 0) (h2 : ∀ (hj : k < es.length), 0 < c es[k] d) :
    DiffI c s (pre ++ [d]) (es.take k ++ s d 0 :: es.drop k) := by
  have hst := h.strict
  unfold Strict at hst
  rw [← List.take_append_drop k es, List.pairwise_append] at hst
  obtain ⟨p1, p2, p3⟩ := hst
  have lo : ∀ x, x ∈ es.take k → c x (s d 0) < 0 := fun x hx => by
    obtain ⟨j, hj, rfl⟩ := List.mem_iff_getElem.1 hx
    rw [List.length_take] at hj
    rw [List.getElem_take, H.sc]
    exact h1 j (by omega) (by omega)
  have hi : ∀ y, y ∈ es.drop k → c (s d 0) y < 0 := fun y hy => by
    rw [H.cs, H.ord.anti]
    by_cases hk : k < es.length
    · rw [List.drop_eq_getElem_cons hk] at hy p2
      have hp := h2 hk
      rcases List.mem_cons.1 hy with rfl | hy
      · omega
      · have hlt := (List.pairwise_cons.1 p2).1 y hy
        have hd : c d es[k] < 0 := by rw [H.ord.anti]; omega
        have := H.ord.lt_of_lt_le hd (Int.le_of_lt hlt)
        rw [H.ord.anti] at this
        omega
    · rw [List.drop_eq_nil_of_le (by omega)] at hy
      cases hy
  refine ⟨?_, fun x hx => ?_, fun y hy => ?_⟩
  · unfold Strict
    rw [List.pairwise_append]
    refine ⟨p1, List.pairwise_cons.2 ⟨hi, p2⟩, fun x hx y hy => ?_⟩
    rcases List.mem_cons.1 hy with rfl | hy
    · exact lo x hx
    · exact p3 x hx y hy
  · rcases List.mem_append.1 hx with hx | hx
    · obtain ⟨e, he, h1⟩ := h.mem x (List.mem_of_mem_take hx)
      exact ⟨e, List.mem_append_left _ he, h1⟩
    · rcases List.mem_cons.1 hx with rfl | hx
      · exact ⟨d, by simp, rfl⟩
      · obtain ⟨e, he, h1⟩ := h.mem x (List.mem_of_mem_drop hx)
        exact ⟨e, List.mem_append_left _ he, h1⟩
  · rcases List.mem_append.1 hy with hy | hy
    · obtain ⟨x, hx, he⟩ := h.all y hy
      refine ⟨x, ?_, he⟩
      rw [← List.take_append_drop k es] at hx
      rcases List.mem_append.1 hx with hx | hx
      · exact List.mem_append_left _ hx
      · exact List.mem_append_right _ (List.mem_cons_of_mem _ hx)
    · rw [List.mem_singleton.1 hy]
      exact ⟨s d 0, by simp, by rw [H.cs]; exact H.ord.self d⟩

/-- what the reference takes for a sum: a number that is too large beyond 2^41 -/
def timesR (t : Int) : Int := if -2199023255552 ≤ t ∧ t < 2199023255552 then t else 1099511627777
def InT (t : Int) : Prop := -1099511627776 ≤ t ∧ t ≤ 1099511627776
instance (t : Int) : Decidable (InT t) := by unfold InT; infer_instance
theorem timesR_in {t : Int} : InT (timesR t) ↔ InT t := by
  unfold timesR InT
  split <;> omega
theorem timesR_neg_in {t : Int} : InT (-1 * timesR t) ↔ InT t := by
  unfold timesR InT
  split <;> omega
theorem timesR_eq {t : Int} (h : InT t) : timesR t = t := by
  unfold InT at h
  unfold timesR
  rw [if_pos (by omega)]

def refOut (c : α → α → Int) (n : α → Int) (s : α → Int → α) (sign : Int) (l es : List α) : List α := (es.map fun e => s e (sign * timesR (tot c n e l))).filter fun d => n d ≠ 0

theorem pw_map (H : Cnt c n s) {es : List α} (g : α → Int) (h : Strict c es) : Strict c (es.map fun e => s e (g e)) := by
  unfold Strict
  rw [List.pairwise_map]
  exact List.Pairwise.imp (fun {a b} hab => by rw [H.scc]; exact hab) h
theorem refOut_strict (H : Cnt c n s) (sign : Int) {l es : List α} (h : DiffI c s l es) : Strict c (refOut c n s sign l es) := List.Pairwise.filter _ (pw_map H _ h.strict)
theorem refOut_nz {sign : Int} {l es : List α} {x : α} (h : x ∈ refOut c n s sign l es) : n x ≠ 0 := by
  have := (List.mem_filter.1 h).2
  simpa using this
theorem refOut_tot (H : Cnt c n s) {l es : List α} (h : DiffI c s l es) (hr : ∀ e, e ∈ es → InT (tot c n e l)) (r : α) : tot c n r (refOut c n s 1 l es) = tot c n r l := by
  unfold refOut
  rw [tot_filter]
  by_cases hx : ∃ x, x ∈ es ∧ c x r = 0
  · obtain ⟨x, hx, hc⟩ := hx
    have h1 := tot_strict (n := n) H.ord (pw_map H (fun e => 1 * timesR (tot c n e l)) h.strict) (List.mem_map_of_mem (f := fun e => s e (1 * timesR (tot c n e l))) hx)
    have h2 := tot_congr (n := n) H.ord (x := s x (1 * timesR (tot c n x l))) (y := r) (by rw [H.cs]; exact hc) (es.map fun e => s e (1 * timesR (tot c n e l)))
    rw [h2] at h1
    rw [h1, H.ns, timesR_eq (hr x hx), Int.one_mul]
    exact tot_congr H.ord hc l
  · rw [tot_zero, tot_zero]
    · intro d hd e
      obtain ⟨x, hx', he⟩ := h.all d hd
      exact hx ⟨x, hx', H.ord.eq_trans he e⟩
    · intro d hd e
      obtain ⟨x, hx', rfl⟩ := List.mem_map.1 hd
      rw [H.cs] at e
      exact hx ⟨x, hx', e⟩

/-- where the reference finds a number too large the program does, and the other way round -/
theorem out_fail (H : Cnt c n s) {l es out : List α} (h : DiffI c s l es) (hc : Canon c n s l out) : (∀ x, x ∈ out → InT (n x)) ↔ ∀ e, e ∈ es → InT (tot c n e l) := by
  constructor
  · intro ho e he
    by_cases hz : tot c n e l = 0
    · rw [hz]; unfold InT; omega
    · have ht := hc.tot e
      have : ∃ x, x ∈ out ∧ c x e = 0 := by
        refine Classical.byContradiction fun hne => hz ?_
        rw [← ht]
        exact tot_zero fun d hd e' => hne ⟨d, hd, e'⟩
      obtain ⟨x, hx, hxe⟩ := this
      have h1 := tot_strict (n := n) H.ord hc.strict hx
      rw [tot_congr H.ord hxe, ht] at h1
      rw [h1]
      exact ho x hx
  · intro ho x hx
    obtain ⟨d, hd, h1⟩ := hc.mem x hx
    obtain ⟨e, he, hed⟩ := h.all d hd
    have hex : c e x = 0 := by rw [h1, H.sc]; exact hed
    have h2 := tot_strict (n := n) H.ord hc.strict hx
    rw [← tot_congr H.ord hex, hc.tot] at h2
    rw [← h2]
    exact ho e he

/-- both lists are the same -/
theorem ref_same (H : Cnt c n s) {l es out : List α} (h : DiffI c s l es) (hc : Canon c n s l out) (hr : ∀ e, e ∈ es → InT (tot c n e l)) : Same c n out (refOut c n s 1 l es) :=
  same_of_tot H.ord hc.strict (refOut_strict H 1 h) hc.nz (fun _ hx => refOut_nz hx) fun x => (hc.tot x).trans (refOut_tot H h hr x).symm
theorem Same.len : ∀ {a b : List α}, Same c n a b → a.length = b.length
  | [], [], _ => rfl
  | _ :: _, _ :: _, h => congrArg Nat.succ (Same.len h.2.2)
  | [], _ :: _, h => by cases h
  | _ :: _, [], h => by cases h
theorem Same.get : ∀ {a b : List α}, Same c n a b → ∀ (i : Nat) (h1 : i < a.length) (h2 : i < b.length), c a[i] b[i] = 0 ∧ n a[i] = n b[i]
  | [], _, _, _, h1, _ => by cases h1
  | _ :: _, [], h, _, _, _ => by cases h
  | _ :: _, _ :: _, h, 0, _, _ => ⟨h.1, h.2.1⟩
  | _ :: _, _ :: _, h, i + 1, h1, h2 => Same.get h.2.2 i (by simpa using h1) (by simpa using h2)
end
end Go.Proofs.YthejmnmkbldacaaGreatDoor

namespace Go.Proofs.YthejmnmkbldacaaGreatDoor
open Go.RowKit
attribute [local go_sem] Tab.Env.ev Tab.Env.get

open Tab in
/-- a call of a function value that is known, its operands known -/
theorem Tab.tab_callv {P : Program} {ops : Array Oper} {Q : Exit → Act → World → Prop} {E : World → World → Prop} {C : Array Bool → World → Prop} {w0 : World} {a0 : Act} {G : Env} {o : Oper} {i : Nat} {rest : List Oper} {K : Env → Prop} {f : FuncId} {x : Operand} {xs : Array Operand} {ats : Array TypeId} {d : Tmp} (v : Value) (hd : o.dst = some d)
    (ho : o.op = .call { callee := .value x, args := xs, argTypes := ats }) (hg : guardB ops G a0 o = some true) (hkx : G.isKnown x = true) (hx : G.ev a0 x = .func (.func f) #[] #[])
    (hcf : ∀ (args : Array Value) (w : World), (callFunc f args).run P w = .ok (.enter f args) w) (hk : xs.toList.all G.isKnown = true)
    (hstep : ∀ (listed : Array Bool) (w : World), listed.size = ops.size → Stage ops i listed → C listed w → E w0 w → Calls P f (xs.toList.map (G.ev a0)).toArray w fun e w' => e = .returned v ∧ E w w' ∧ C (listed.setIfInBounds i true) w')
    (h : wpTab P ops Q E C w0 a0 K (i + 1) rest ((d, .is v) :: G)) : wpTab P ops Q E C w0 a0 K i (o :: rest) G := by
  refine tab_ty (.is v) hd (stable_is _) hg (fun listed a w hsz hs hc hw hxs => ?_) h
  obtain ⟨dst, op, type, pos, after, guard⟩ := o
  simp only at ho
  subst ho
  have e0 : a.eval x = .func (.func f) #[] #[] := (ev_of hkx (hxs x (by simp [Op.operands, Call.operands]))).trans hx
  have e1 : xs.map a.eval = (xs.toList.map (G.ev a0)).toArray := by
    have e2 : xs.map a.eval = xs.map (G.ev a0) := Array.map_congr_left fun y hy => ev_of (List.all_eq_true.1 hk y (Array.mem_toList_iff.2 hy)) (hxs y (by simp [Op.operands, Call.operands, hy]))
    rw [e2]
    exact Array.ext' (by simp)
  have e : execOp a.eval { dst, op := .call { callee := .value x, args := xs, argTypes := ats }, type, pos, after, guard } = callFunc f (xs.map a.eval) := by
    show (do let d ← Deferred.ofValue (a.eval x) (xs.map a.eval); invoke d.target d.args : Sem Next) = _
    rw [e0]
    show callFunc f (#[] ++ xs.map a.eval ++ #[]) = _
    simp
  unfold Oper.wp
  rw [e, hcf, e1]
  simp only [Oper.upon_enter]
  refine (hstep listed w hsz hs hc hw).mono ?_
  rintro e' w' ⟨rfl, hE, hC⟩
  exact ⟨v, rfl, rfl, hE, hC⟩

/-- a difference as it lies in memory -/
structure DE where
  rv : Value
  row : List VD
  n : Int
instance : Inhabited DE := ⟨⟨undef, [], 0⟩⟩
def DE.cells (d : DE) : List Value := [d.rv, .int .i64 d.n]
def DE.val (d : DE) : Value := .agg #[d.rv, .int .i64 d.n]
/-- its row reads, and its number is one -/
structure DE.good (w : World) (F : Nat → Prop) (d : DE) : Prop where
  row : RI w F d.rv d.row
  n : I64 d.n
def dcells (l : List DE) : List Value := l.flatMap DE.cells
theorem dcells_cons (d : DE) (l : List DE) : dcells (d :: l) = d.rv :: .int .i64 d.n :: dcells l := rfl
theorem dcells_append (l r : List DE) : dcells (l ++ r) = dcells l ++ dcells r := List.flatMap_append
theorem dcells_length (l : List DE) : (dcells l).length = l.length * 2 := by
  induction l with
  | nil => rfl
  | cons d l ih => rw [dcells_cons]; simp [ih]; omega
theorem dcells_get (l : List DE) (i : Nat) : (dcells l)[i * 2]? = (l[i]?).map DE.rv ∧ (dcells l)[i * 2 + 1]? = (l[i]?).map fun d => .int .i64 d.n := by
  induction l generalizing i with
  | nil => simp [dcells]
  | cons d l ih =>
    cases i with
    | zero => simp [dcells_cons]
    | succ i =>
      rw [dcells_cons, show (i + 1) * 2 = (i * 2) + 1 + 1 by omega]
      simpa using ih i
theorem dcells_set (l : List DE) (i : Nat) (d : DE) : dcells (l.set i d) = ((dcells l).set (i * 2) d.rv).set (i * 2 + 1) (.int .i64 d.n) := by
  induction l generalizing i with
  | nil => simp [dcells]
  | cons e l ih =>
    cases i with
    | zero => simp [dcells_cons]
    | succ i =>
      rw [List.set_cons_succ, dcells_cons, dcells_cons, ih i, show (i + 1) * 2 = (i * 2) + 1 + 1 by omega]
      simp

/-- a row of differences of the call's own, in block g -/
def OwnD (w : World) (g cap : Nat) (l : List DE) : Prop := ∃ tl : List Value, Blk w g 86 (dcells l ++ tl) ∧ l.length ≤ cap ∧ cap ≤ maxLen
end Go.Proofs.YthejmnmkbldacaaGreatDoor

namespace Go.Proofs.YthejmnmkbldacaaGreatDoor
open Go.RowKit

/-- the slice value v holds n elements of k cells each, which are cs; its memory lies in a block of F -/
def SL (w : World) (F : Nat → Prop) (k : Nat) (v : Value) (n : Nat) (cs : List Value) : Prop :=
  cs.length = n * k ∧ ∃ A c, v = .slice A n c ∧ n ≤ c ∧ c ≤ maxLen ∧ (0 < n → ∃ b off, A = some ⟨b, off, none⟩ ∧ F b ∧ b < w.heap.size ∧ ∀ j u, cs[j]? = some u → w.cell? ⟨b, off + j, none⟩ = some u)
section
variable {w w' : World} {F F' : Nat → Prop} {k n : Nat} {v : Value} {cs : List Value}
theorem SL.keep (h : SL w F k v n cs) (hz : w.heap.size ≤ w'.heap.size) (hF : ∀ b, F b → b < w.heap.size → w'.heap[b]? = w.heap[b]? ∧ F' b) : SL w' F' k v n cs :=
  ⟨h.1, let ⟨A, c, h1, h2, h3, h4⟩ := h.2; ⟨A, c, h1, h2, h3, fun hn => let ⟨b, off, e, hb, hlt, hc⟩ := h4 hn
    ⟨b, off, e, (hF b hb hlt).2, Nat.lt_of_lt_of_le hlt hz, fun j u hj => (World.cell?_of_block (w := w) (a := ⟨b, off + j, none⟩) (hF b hb hlt).1).trans (hc j u hj)⟩⟩⟩
theorem SL.ext {M : Nat → Prop} (h : SL w F k v n cs) (hb : Tab.Ext M w w') (hM : ∀ b, F b → ¬ M b) : SL w' F k v n cs := h.keep hb.size fun b hF hlt => ⟨hb.block b hlt (hM b hF), hF⟩
theorem SL.later (h : SL w F k v n cs) (hb : Below w.heap.size w w') : SL w' F k v n cs := h.keep hb.size fun b hF hlt => ⟨hb.block b hlt, hF⟩
theorem SL.mono (h : SL w F k v n cs) (hF : ∀ b, F b → b < w.heap.size → F' b) : SL w F' k v n cs := h.keep (Nat.le_refl _) fun b hb hlt => ⟨rfl, hF b hb hlt⟩
theorem SL.nil (w : World) (F : Nat → Prop) (k : Nat) : SL w F k (.slice none 0 0) 0 [] := ⟨by simp, none, 0, rfl, Nat.le_refl _, Nat.zero_le _, fun h => absurd h (Nat.lt_irrefl 0)⟩
theorem SL.of_own {base : Nat} {e : TypeId} (h : w.ownsRow base e k v n cs) : SL w (fun b => base ≤ b) k v n cs := by
  refine ⟨h.1, ?_⟩
  rcases h.2 with ⟨rfl, hn⟩ | ⟨g, cap, cur, rfl, hg, hblk, hle, hm, hsz, htk⟩
  · subst hn
    exact ⟨none, 0, rfl, Nat.le_refl _, Nat.zero_le _, fun h => absurd h (Nat.lt_irrefl 0)⟩
  · refine ⟨_, cap, rfl, hle, hm, fun hn => ⟨g, 0, rfl, hg, lt_of_block hblk, fun j u hj => ?_⟩⟩
    rw [cell_of_row w g (0 + j) cur e (0, 0) hblk, Nat.zero_add]
    have h1 : (cur.toList.take (n * k))[j]? = some u := by rw [htk]; exact hj
    rw [List.getElem?_take] at h1
    split at h1
    · simpa using h1
    · cases h1
/-- the cells of element i -/
theorem SL.at_ (h : SL w F k v n cs) {i : Nat} (hi : i < n) : ∃ b off c, v = .slice (some ⟨b, off, none⟩) n c ∧ n ≤ c ∧ c ≤ maxLen ∧ F b ∧ b < w.heap.size ∧ ∀ j, j < k → ∃ u, cs[i * k + j]? = some u ∧ w.cell? ⟨b, off + i * k + j, none⟩ = some u := by
  obtain ⟨hl, A, c, rfl, h2, h3, h4⟩ := h
  obtain ⟨b, off, rfl, hb, hlt, hc⟩ := h4 (by omega)
  refine ⟨b, off, c, rfl, h2, h3, hb, hlt, fun j hj => ?_⟩
  have h5 : i * k + j < cs.length := by
    rw [hl]
    have := Nat.mul_le_mul_right k (show i + 1 ≤ n by omega)
    rw [Nat.succ_mul] at this
    omega
  exact ⟨cs[i * k + j], List.getElem?_eq_getElem h5, by rw [Nat.add_assoc]; exact hc _ _ (List.getElem?_eq_getElem h5)⟩
end

theorem run_append_none {P : Program} {w : World} {base e size : Nat} (t ty : TypeId) (i : TypeInfo) (ht : P.underlying t = some (.slice e)) (hi : P.info? e = some i)
    (v : Value) (n c : Nat) (xs : List Value) (hown : w.ownsRow base e size v n xs) :
    (Builtin.append_ #[t, t] ty #[v, .slice none 0 c]).run P w = .ok v w := by
  rcases hown.2 with ⟨rfl, rfl⟩ | ⟨g, cap, cur, rfl, _, _, hnc, _⟩
  · simp [Builtin.append_, run_underlying ht, sizeOf, typeInfo, hi, Builtin.lenOf, Builtin.firstCells]
  · simp [Builtin.append_, run_underlying ht, sizeOf, typeInfo, hi, Builtin.lenOf, Builtin.firstCells, hnc, storeCells]

/-- append of a slice that reads -/
theorem append_sl {P : Program} (w : World) {ops : Array Oper} {rest : List Oper} {o : Oper} {a : Act} {Q : Exit → Act → World → Prop} (hgd : o.guard = none) (s x : Operand) (t : TypeId)
    (ho : o.op = .call { callee := .builtin .append, args := #[s, x], argTypes := #[t, t] }) (base : Nat) (e : TypeId) {z : Value} {size bytes : Nat} (ht : P.underlying t = some (.slice e))
    (hinfo : (P.info? e).map (fun i => (i.zero, i.size, i.bytes)) = some (some z, size, bytes)) (hzs : z.cells.size = size) (hsz : 0 < size) (v : Value) (n : Nat) (xs us : List Value) (hs : a.eval s = v) (hown : w.ownsRow base e size v n xs)
    (F : Nat → Prop) (vx : Value) (m : Nat) (hx : a.eval x = vx) (hsl : SL w F size vx m us) (h1 : ∀ u ∈ us, u.oneCell' = true) (hn : n + m < 1073741824) (hby : bytes ≤ 65536) (hbase : base ≤ w.heap.size)
    (h : ∀ v' w', w'.ownsRow base e size v' (n + m) (xs ++ us) → Below base w w' → wpList P ops Q rest (a.put o.dst v') w') : wpList P ops Q (o :: rest) a w := by
  obtain ⟨hl, A, c, rfl, hc1, hc2, hc⟩ := hsl
  rcases Nat.eq_zero_or_pos m with h0 | hm
  · subst h0
    have e0 : us = [] := List.eq_nil_of_length_eq_zero (by simpa using hl)
    subst e0
    cases A with
    | none =>
      obtain ⟨i, hi, _⟩ := info_parts hinfo
      refine wpList_plain hgd fun K hK => ?_
      have hr := run_append_none (P := P) t o.type i ht hi v n c xs hown
      unfold Oper.wp
      simp [execOp, ho, resolve, invoke, builtin, hs, hx, hr, Result.andThen]
      have := h v w (by simpa using hown) (Below.refl _ _)
      exact hK _ _ this
    | some ad =>
      obtain ⟨i, hi, hz, hsize, hbytes⟩ := info_parts hinfo
      refine wpList_append_own _ hgd s x t ho base e i z size bytes ht hi hz hsize hbytes hzs hsz v n xs hs hown ad 0 c [] hx (by simp) (fun j u hj => by simp at hj) h1 (by unfold maxLen; omega) ?_ hbase ?_
      · have := Nat.mul_le_mul (show n + 0 ≤ 1073741824 by omega) hby
        omega
      · intro v' w' ho' hg _
        exact h v' w' ho' (below_grown hown hg hbase)
  · obtain ⟨b, off, rfl, _, _, hcell⟩ := hc hm
    exact append_from w hgd s x t ho base e ht hinfo hzs hsz v n xs us hs hown b off m c hx hl hcell h1 hn hby hbase h

/-- the capacity that Clip leaves -/
def clipCap (A : Option Addr) (n : Nat) : Nat := if A.isNone then 0 else n
theorem RI.clip {w : World} {F : Nat → Prop} {A : Option Addr} {l : List VD} {c : Nat} (h : RI w F (.slice A l.length c) l) : RI w F (.slice A l.length (clipCap A l.length)) l := by
  obtain ⟨A', c', iA, iC, hv, hc, hm, hs, hw, hr⟩ := h.shape
  injection hv with e1 _ e2
  subst e1
  subst e2
  refine .mk A _ l iA iC ?_ ?_ hs hw hr
  · unfold clipCap
    cases A with
    | none =>
      rcases Nat.eq_zero_or_pos l.length with h0 | h0
      · rw [h0]; exact Nat.zero_le _
      · obtain ⟨_, _, e, _⟩ := hs h0
        cases e
    | some a => exact Nat.le_refl _
  · unfold clipCap
    cases A with
    | none => exact Nat.zero_le _
    | some a => exact Nat.le_trans hc hm
theorem SL.clip {w : World} {F : Nat → Prop} {k n c : Nat} {A : Option Addr} {cs : List Value} (h : SL w F k (.slice A n c) n cs) : SL w F k (.slice A n (clipCap A n)) n cs := by
  obtain ⟨hl, A', c', hv, h1, h2, h3⟩ := h
  injection hv with e1 _ e2
  subst e1
  subst e2
  refine ⟨hl, A, _, rfl, ?_, ?_, h3⟩
  · unfold clipCap
    cases A with
    | none =>
      rcases Nat.eq_zero_or_pos n with h0 | h0
      · rw [h0]; exact Nat.zero_le _
      · obtain ⟨_, _, e, _⟩ := h3 h0
        cases e
    | some a => exact Nat.le_refl _
  · unfold clipCap
    cases A with
    | none => exact Nat.zero_le _
    | some a => exact Nat.le_trans h1 h2
theorem SL.none_zero {w : World} {F : Nat → Prop} {k n c : Nat} {A : Option Addr} {cs : List Value} (h : SL w F k (.slice A n c) n cs) : A = none → n = 0 := fun h0 => by
  obtain ⟨hl, A', c', hv, h1, h2, h3⟩ := h
  injection hv with e1 _ e2
  subst e1
  rcases Nat.eq_zero_or_pos n with h | h
  · exact h
  · obtain ⟨b, off, e, _⟩ := h3 h
    rw [h0] at e; cases e
/-- a slice that reads as a list of differences; its own memory in F, its rows' in F' -/
structure RD (w : World) (F F' : Nat → Prop) (v : Value) (l : List DE) : Prop where
  sl : SL w F 2 v l.length (dcells l)
  good : ∀ d, d ∈ l → d.good w F'
section
variable {w w' : World} {F F' F2 F2' : Nat → Prop} {v : Value} {l : List DE}
theorem RD.ext {M : Nat → Prop} (h : RD w F F' v l) (hb : Tab.Ext M w w') (hM : ∀ b, F b → ¬ M b) (hM' : ∀ b, F' b → ¬ M b) : RD w' F F' v l := ⟨h.sl.ext hb hM, fun d hd => ⟨(h.good d hd).row.ext hb hM', (h.good d hd).n⟩⟩
theorem RD.later (h : RD w F F' v l) (hb : Below w.heap.size w w') : RD w' F F' v l := ⟨h.sl.later hb, fun d hd => ⟨(h.good d hd).row.later hb, (h.good d hd).n⟩⟩
theorem RD.mono (h : RD w F F' v l) (h1 : ∀ b, F b → b < w.heap.size → F2 b) (h2 : ∀ b, F' b → b < w.heap.size → F2' b) : RD w F2 F2' v l := ⟨h.sl.mono h1, fun d hd => ⟨(h.good d hd).row.mono h2, (h.good d hd).n⟩⟩
theorem RD.nil (w : World) (F F' : Nat → Prop) : RD w F F' (.slice none 0 0) [] := ⟨SL.nil w F 2, fun _ h => by cases h⟩
/-- what lies at i -/
theorem RD.at_ (h : RD w F F' v l) {i : Nat} (hi : i < l.length) : ∃ (b off c : Nat) (A : Option Addr) (m c' : Nat) (row : List VD) (k : Int), v = .slice (some ⟨b, off, none⟩) l.length c ∧ l.length ≤ c ∧ c ≤ maxLen ∧ b < w.heap.size ∧ dat l i = ⟨.slice A m c', row, k⟩ ∧ (DE.mk (.slice A m c') row k).good w F' ∧
    w.cell? ⟨b, off + i * 2, none⟩ = some (.slice A m c') ∧ w.cell? ⟨b, off + i * 2 + 1, none⟩ = some (.int .i64 k) := by
  obtain ⟨b, off, c, hv, h1, h2, _, hlt, hc⟩ := h.sl.at_ hi
  have hg := h.good (dat l i) (dat_mem hi)
  have hd := dcells_get l i
  rw [dat_some hi] at hd
  obtain ⟨u0, e0, c0⟩ := hc 0 (by omega)
  obtain ⟨u1, e1, c1⟩ := hc 1 (by omega)
  rw [Nat.add_zero, hd.1] at e0
  rw [hd.2] at e1
  simp only [Option.map_some, Option.some.injEq] at e0 e1
  subst e0
  subst e1
  generalize dat l i = d at hg c0 c1
  obtain ⟨rv, row, k⟩ := d
  obtain ⟨A, c', _, _, e, _⟩ := hg.row.shape
  simp only at e c0 c1
  subst e
  exact ⟨b, off, c, A, _, c', row, k, hv, h1, h2, hlt, rfl, hg, c0, c1⟩
end
theorem dcells_one {w : World} {F : Nat → Prop} {l : List DE} (h : ∀ d, d ∈ l → d.good w F) : ∀ u ∈ dcells l, u.oneCell' = true := by
  intro u hu
  obtain ⟨d, hd, h1⟩ := List.mem_flatMap.1 hu
  obtain ⟨A, c, _, _, e, _⟩ := (h d hd).row.shape
  unfold DE.cells at h1
  rw [e] at h1
  rcases List.mem_cons.1 h1 with rfl | h1
  · rfl
  · rw [List.mem_singleton.1 h1]; rfl

theorem infoD : (Tryz.prog.info? 86).map (fun i => (i.zero, i.size, i.bytes)) = some (some (.agg #[.slice none 0 0, .int .i64 0]), 2, 32) := by kernel_rfl
theorem underD : Tryz.prog.underlying 23 = some (.slice 86) := by kernel_rfl
theorem infoV : (Tryz.prog.info? 33).map (fun i => (i.zero, i.size, i.bytes)) = some (some (.agg #[.int .i64 0, .int .i64 0, .int .i64 0, .string .empty, .slice none 0 0]), 5, 64) := by kernel_rfl
theorem underV : Tryz.prog.underlying 31 = some (.slice 33) := by kernel_rfl
theorem infoR : (Tryz.prog.info? 31).map (fun i => (i.zero, i.size, i.bytes)) = some (some (.slice none 0 0), 1, 24) := by kernel_rfl
theorem underR : Tryz.prog.underlying 22 = some (.slice 31) := by kernel_rfl
end Go.Proofs.YthejmnmkbldacaaGreatDoor

namespace Go.Proofs.YthejmnmkbldacaaGreatDoor
open Go.RowKit
attribute [local go_sem] Tab.Env.ev Tab.Env.get

set_option maxHeartbeats 400000 in
theorem cloneD_any (F : Nat → Prop) (v : Value) (n : Nat) (cs : List Value) (w : World) (hsl : SL w F 2 v n cs) (h1 : ∀ u ∈ cs, u.oneCell' = true) (hn : n < 1073741824) :
    Calls Tryz.prog 111 #[v] w fun e w' => ∃ v', e = .returned v' ∧ w'.ownsRow w.heap.size 86 2 v' n cs ∧ Below w.heap.size w w' := by
  have HSL := Lib.hid hsl
  have HONE := Lib.hid h1
  obtain ⟨hl, A, c, rfl, hc1, hc2, hc⟩ := hsl
  have HL := Lib.hid hl
  clear hl hc h1
  have heq := fun (w : World) => Lib.run_eql_slice_nil (P := Tryz.prog) w 23 86 A n c 0 0 underD
  cases A with
  | none =>
    have HN := Lib.hid (show n = 0 ∨ 0 < n by omega)
    go_enter Tryz.func111, Tryz.ntmps111
    go_wp2_with fail
    go_ret
    rcases HN.out with h0 | h0
    · subst h0
      have e0 : cs = [] := List.eq_nil_of_length_eq_zero (by simpa using HL.out)
      subst e0
      exact ⟨_, rfl, World.ownsRow_nil _ _ _ _, Below.refl _ _⟩
    · obtain ⟨_, A, c', hv, _, _, h⟩ := HSL.out
      obtain ⟨b, off, e, _⟩ := h h0
      injection hv with hv
      rw [e] at hv
      cases hv
  | some ad =>
    have HO := Lib.hid (World.ownsRow_lit (base := w.heap.size) (e := 86) (size := 2) w #[] 0 (Nat.le_refl _) (Nat.zero_le _) (by rfl))
    go_enter Tryz.func111, Tryz.ntmps111
    go_wp2_with (at_builtin; refine append_sl _ rfl (.tmp 5) (.tmp 6) 23 rfl w.heap.size 86 underD infoD rfl (by decide) _ 0 [] cs rfl HO.out F _ n rfl (HSL.out.later (below_new w _)) HONE.out (by omega) (by decide) (by simp) ?_)
    intro v' w1 hown' hb1
    have HO' := Lib.hid hown'
    clear hown'
    go_wp2_with fail
    go_ret
    exact ⟨_, rfl, HO'.out, (below_new w _).trans hb1⟩

set_option maxHeartbeats 400000 in
theorem clipD_any (A : Option Addr) (n c : Nat) (hA : A = none → n = 0) (hn : n ≤ c) (hm : c ≤ maxLen) (w : World) :
    Calls Tryz.prog 76 #[.slice A n c] w fun e w' => e = .returned (.slice A n (clipCap A n)) ∧ w = w' := by
  unfold maxLen at hm
  cases A with
  | none =>
    obtain rfl := hA rfl
    go_enter Tryz.func76, Tryz.ntmps76
    go_wp2_with fail
    go_ret
    exact ⟨rfl, rfl⟩
  | some a =>
    go_enter Tryz.func76, Tryz.ntmps76
    go_wp2_with fail
    go_ret
    exact ⟨rfl, rfl⟩

set_option maxHeartbeats 400000 in
theorem clipV_any (A : Option Addr) (n c : Nat) (hA : A = none → n = 0) (hn : n ≤ c) (hm : c ≤ maxLen) (w : World) :
    Calls Tryz.prog 87 #[.slice A n c] w fun e w' => e = .returned (.slice A n (clipCap A n)) ∧ w = w' := by
  unfold maxLen at hm
  cases A with
  | none =>
    obtain rfl := hA rfl
    go_enter Tryz.func87, Tryz.ntmps87
    go_wp2_with fail
    go_ret
    exact ⟨rfl, rfl⟩
  | some a =>
    go_enter Tryz.func87, Tryz.ntmps87
    go_wp2_with fail
    go_ret
    exact ⟨rfl, rfl⟩

set_option maxHeartbeats 400000 in
theorem clipR_any (A : Option Addr) (n c : Nat) (hA : A = none → n = 0) (hn : n ≤ c) (hm : c ≤ maxLen) (w : World) :
    Calls Tryz.prog 74 #[.slice A n c] w fun e w' => e = .returned (.slice A n (clipCap A n)) ∧ w = w' := by
  unfold maxLen at hm
  cases A with
  | none =>
    obtain rfl := hA rfl
    go_enter Tryz.func74, Tryz.ntmps74
    go_wp2_with fail
    go_ret
    exact ⟨rfl, rfl⟩
  | some a =>
    go_enter Tryz.func74, Tryz.ntmps74
    go_wp2_with fail
    go_ret
    exact ⟨rfl, rfl⟩
end Go.Proofs.YthejmnmkbldacaaGreatDoor
