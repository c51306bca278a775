/-
  What is proved: the order of values is a total preorder. Conditions: none. No program in sight.
  What is proved: how the program and the reference compare rows. Conditions: none.
  What is proved: how the reference compares rows (seat Z alone). Conditions: none.
  What is proved: the plain law of the stable sort: what its pieces do to a list. Conditions: the order is a total preorder. No program in sight.
-/
import Derived.Test.YthejmnmkbldacaaGreatDoorGm10
import Derived.RowKit
set_option linter.all false
namespace Go.Proofs.YthejmnmkbldacaaGreatDoor
open Go.RowKit

/-- three comparisons, of x and y, y and z, x and z, fit together -/
def Tr (a b c : Int) : Prop := (a < 0 → b ≤ 0 → c < 0) ∧ (a ≤ 0 → b < 0 → c < 0) ∧ (a = 0 → b = 0 → c = 0)
theorem Tr.orI {a b c a' b' c' : Int} (h : Tr a b c) (h' : a = 0 → b = 0 → c = 0 → Tr a' b' c') : Tr (orI a a') (orI b b') (orI c c') := by
  unfold Tr at *
  unfold Go.Proofs.YthejmnmkbldacaaGreatDoor.orI
  obtain ⟨h1, h2, h3⟩ := h
  by_cases ha : a = 0
  · by_cases hb : b = 0
    · have hc := h3 ha hb
      rw [if_neg (by simp [ha]), if_neg (by simp [hb]), if_neg (by simp [hc])]
      exact h' ha hb hc
    · by_cases hc : c = 0
      · rw [if_neg (by simp [ha]), if_pos hb, if_neg (by simp [hc])]
        refine ⟨fun _ _ => by omega, fun _ _ => by omega, fun _ _ => by omega⟩
      · rw [if_neg (by simp [ha]), if_pos hb, if_pos hc]
        refine ⟨fun _ _ => by omega, fun _ _ => by omega, fun _ _ => by omega⟩
  · by_cases hb : b = 0
    · by_cases hc : c = 0
      · rw [if_pos ha, if_neg (by simp [hb]), if_neg (by simp [hc])]
        refine ⟨fun _ _ => by omega, fun _ _ => by omega, fun _ _ => by omega⟩
      · rw [if_pos ha, if_neg (by simp [hb]), if_pos hc]
        refine ⟨fun _ _ => by omega, fun _ _ => by omega, fun _ _ => by omega⟩
    · by_cases hc : c = 0
      · rw [if_pos ha, if_pos hb, if_neg (by simp [hc])]
        refine ⟨fun _ _ => by omega, fun _ _ => by omega, fun _ _ => by omega⟩
      · rw [if_pos ha, if_pos hb, if_pos hc]
        exact ⟨h1, h2, h3⟩
theorem orI_anti {a b a' b' : Int} (h : a' = -a) (h' : a = 0 → b' = -b) : orI a' b' = -orI a b := by
  unfold orI
  by_cases ha : a = 0
  · rw [if_neg (by simp [h, ha]), if_neg (by simp [ha])]
    exact h' ha
  · rw [if_pos (by omega), if_pos ha, h]
theorem cmpI_anti (a b : Int) : cmpI b a = -cmpI a b := by
  unfold cmpI
  split <;> split <;> omega
theorem cmpI_tr (x y z : Int) : Tr (cmpI x y) (cmpI y z) (cmpI x z) := by
  unfold Tr cmpI
  split <;> split <;> split <;> (try split) <;> (try split) <;> (try split) <;> omega
theorem cmpI_eq_zero {a b : Int} : cmpI a b = 0 ↔ a = b := ⟨fun h => Decidable.byContradiction fun hne => cmpI_ne hne h, cmpI_eq⟩

theorem cmpBytes_anti : ∀ a b : List UInt8, cmpBytes b a = -cmpBytes a b
  | [], [] => rfl
  | [], _ :: _ => rfl
  | _ :: _, [] => rfl
  | a :: l, b :: r => by
    simp only [cmpBytes]
    by_cases h : a < b
    · have h2 : ¬ b < a := fun h' => absurd (UInt8.lt_trans h h') (UInt8.lt_irrefl _)
      simp [h, h2]
    · by_cases h2 : b < a
      · simp [h, h2]
      · simp [h, h2, cmpBytes_anti l r]
theorem cmpBytes_tr : ∀ a b c : List UInt8, Tr (cmpBytes a b) (cmpBytes b c) (cmpBytes a c)
  | [], [], [] => by unfold Tr; simp [cmpBytes]
  | [], [], _ :: _ => by unfold Tr; simp [cmpBytes]
  | [], _ :: _, [] => by unfold Tr; simp [cmpBytes]
  | [], _ :: _, _ :: _ => by unfold Tr; simp [cmpBytes]
  | _ :: _, [], [] => by unfold Tr; simp [cmpBytes]
  | _ :: _, [], _ :: _ => by unfold Tr; simp [cmpBytes]
  | _ :: _, _ :: _, [] => by unfold Tr; simp [cmpBytes]
  | a :: l, b :: r, c :: t => by
    have ih := cmpBytes_tr l r t
    have e : ∀ (x y : UInt8) (p q : List UInt8), cmpBytes (x :: p) (y :: q) = orI (cmpI x.toNat y.toNat) (cmpBytes p q) := fun x y p q => by
      simp only [cmpBytes]
      by_cases h : x < y
      · rw [if_pos h, cmpI_lt (by have := UInt8.lt_iff_toNat_lt.1 h; omega)]; rfl
      · by_cases h2 : y < x
        · rw [if_neg h, if_pos h2, cmpI_gt (by have := UInt8.lt_iff_toNat_lt.1 h2; omega)]; rfl
        · rw [if_neg h, if_neg h2, cmpI_eq (by
            have h3 : ¬ x.toNat < y.toNat := fun h' => h (UInt8.lt_iff_toNat_lt.2 h')
            have h4 : ¬ y.toNat < x.toNat := fun h' => h2 (UInt8.lt_iff_toNat_lt.2 h')
            omega), orI_neg rfl]
    rw [e, e, e]
    exact (cmpI_tr _ _ _).orI fun _ _ _ => ih

/-- how the kinds compare: null is the greatest -/
def kindC (x y : VD) : Int := if x.k ≠ y.k then (if x.k = 0 then 1 else if y.k = 0 then -1 else cmpI x.k y.k) else 0
/-- scales that are in order come first -/
def scC (x y : VD) : Int := if scaleOk x.sc = scaleOk y.sc then 0 else if scaleOk x.sc then -1 else 1
def numC (x y : VD) : Int := if scaleOk x.sc then cmpI (x.n * 10 ^ (12 - x.sc).toNat) (y.n * 10 ^ (12 - y.sc).toNat) else cmpI x.n y.n
def headC (x y : VD) : Int := if x.k = 3 then orI (scC x y) (numC x y) else cmpI x.n y.n
theorem cmpV_form (x y : VD) : cmpV x y = orI (kindC x y) (if x.k = 0 then 0 else orI (headC x y) (restV x y)) := by
  rw [cmpV_eq]
  by_cases hk : x.k = y.k
  · have e : kindC x y = 0 := by unfold kindC; rw [if_neg (by simp [hk])]
    rw [if_neg (by simp [hk]), orI_neg e]
    by_cases h0 : x.k = 0
    · rw [if_pos h0, if_pos h0]
    · rw [if_neg h0, if_neg h0]
      unfold headC
      by_cases h3 : x.k = 3
      · rw [if_pos h3, if_pos h3]
        unfold scC numC
        cases hx : scaleOk x.sc <;> cases hy : scaleOk y.sc <;> simp [orI]
      · rw [if_neg h3, if_neg h3]
  · rw [if_pos hk]
    by_cases h0 : x.k = 0
    · have e : kindC x y = 1 := by unfold kindC; rw [if_pos hk, if_pos h0]
      rw [if_pos h0, e]; rfl
    · rw [if_neg h0]
      by_cases h1 : y.k = 0
      · have e : kindC x y = -1 := by unfold kindC; rw [if_pos hk, if_neg h0, if_pos h1]
        rw [if_pos h1, e]; rfl
      · have e : kindC x y = cmpI x.k y.k := by unfold kindC; rw [if_pos hk, if_neg h0, if_neg h1]
        rw [if_neg h1, e, orI_pos (cmpI_ne hk)]
theorem kindC_tr (x y z : VD) : Tr (kindC x y) (kindC y z) (kindC x z) := by
  unfold kindC Tr cmpI
  generalize x.k = a
  generalize y.k = b
  generalize z.k = c
  by_cases h1 : a = b <;> by_cases h2 : b = c <;> by_cases h3 : a = 0 <;> by_cases h4 : b = 0 <;> by_cases h5 : c = 0 <;> by_cases h6 : a = c <;> simp [h1, h2, h3, h4, h5, h6] <;> omega
theorem kindC_anti (x y : VD) : kindC y x = -kindC x y := by
  unfold kindC cmpI
  generalize x.k = a
  generalize y.k = b
  by_cases h1 : a = b
  · simp [h1]
  · have h2 : ¬ b = a := fun h => h1 h.symm
    simp only [ne_eq, h1, h2, not_false_eq_true, if_true]
    by_cases h3 : a = 0
    · have h4 : ¬ b = 0 := by omega
      simp [h3, h4]
    · by_cases h4 : b = 0
      · simp [h3, h4]
      · simp only [h3, h4, if_false]
        split <;> split <;> omega
theorem scC_anti (x y : VD) : scC y x = -scC x y := by
  unfold scC
  cases scaleOk x.sc <;> cases scaleOk y.sc <;> simp
theorem scC_tr (x y z : VD) : Tr (scC x y) (scC y z) (scC x z) := by
  unfold scC Tr
  cases scaleOk x.sc <;> cases scaleOk y.sc <;> cases scaleOk z.sc <;> simp
theorem scC_zero {x y : VD} (h : scC x y = 0) : scaleOk x.sc = scaleOk y.sc := by
  unfold scC at h
  cases hx : scaleOk x.sc <;> cases hy : scaleOk y.sc <;> simp [hx, hy] at h ⊢
theorem kindC_zero {x y : VD} (h : kindC x y = 0) : x.k = y.k := by
  unfold kindC at h
  by_cases hk : x.k = y.k
  · exact hk
  · rw [if_pos hk] at h
    by_cases h0 : x.k = 0
    · rw [if_pos h0] at h; omega
    · rw [if_neg h0] at h
      by_cases h1 : y.k = 0
      · rw [if_pos h1] at h; omega
      · rw [if_neg h1] at h; exact absurd h (cmpI_ne hk)
theorem headC_anti (x y : VD) (hk : x.k = y.k) : headC y x = -headC x y := by
  unfold headC
  rw [← hk]
  by_cases h3 : x.k = 3
  · rw [if_pos h3, if_pos h3]
    refine orI_anti (scC_anti x y) fun h => ?_
    unfold numC
    rw [← scC_zero h]
    cases scaleOk x.sc
    · exact cmpI_anti _ _
    · exact cmpI_anti _ _
  · rw [if_neg h3, if_neg h3]
    exact cmpI_anti _ _
theorem headC_tr (x y z : VD) (hk : x.k = y.k) (hk' : y.k = z.k) : Tr (headC x y) (headC y z) (headC x z) := by
  unfold headC
  rw [← hk]
  by_cases h3 : x.k = 3
  · rw [if_pos h3, if_pos h3, if_pos h3]
    refine (scC_tr x y z).orI fun h1 h2 _ => ?_
    unfold numC
    rw [← scC_zero h1]
    cases scaleOk x.sc
    · exact cmpI_tr _ _ _
    · exact cmpI_tr _ _ _
  · rw [if_neg h3, if_neg h3, if_neg h3]
    exact cmpI_tr _ _ _
theorem cmpS_anti (a b : ByteArray) : cmpS b a = -cmpS a b := cmpBytes_anti _ _
theorem cmpS_tr (a b c : ByteArray) : Tr (cmpS a b) (cmpS b c) (cmpS a c) := cmpBytes_tr _ _ _

theorem cmpL_cons (a b : VD) (l r : List VD) : cmpL (a :: l) (b :: r) = orI (cmpV a b) (cmpL l r) := by rw [cmpL]; rfl
theorem cmpL_anti_of : ∀ (l r : List VD), (∀ a ∈ l, ∀ b, cmpV b a = -cmpV a b) → cmpL r l = -cmpL l r
  | [], [], _ => rfl
  | [], _ :: _, _ => rfl
  | _ :: _, [], _ => rfl
  | a :: l, b :: r, h => by
    rw [cmpL_cons, cmpL_cons]
    exact orI_anti (h a List.mem_cons_self b) fun _ => cmpL_anti_of l r fun x hx => h x (List.mem_cons_of_mem _ hx)
theorem cmpL_tr_of : ∀ (l r t : List VD), (∀ a ∈ l, ∀ b c, Tr (cmpV a b) (cmpV b c) (cmpV a c)) → Tr (cmpL l r) (cmpL r t) (cmpL l t)
  | [], [], [], _ => by unfold Tr; simp [cmpL]
  | [], [], _ :: _, _ => by unfold Tr; simp [cmpL]
  | [], _ :: _, [], _ => by unfold Tr; simp [cmpL]
  | [], _ :: _, _ :: _, _ => by unfold Tr; simp [cmpL]
  | _ :: _, [], [], _ => by unfold Tr; simp [cmpL]
  | _ :: _, [], _ :: _, _ => by unfold Tr; simp [cmpL]
  | _ :: _, _ :: _, [], _ => by unfold Tr; simp [cmpL]
  | a :: l, b :: r, c :: t, h => by
    rw [cmpL_cons, cmpL_cons, cmpL_cons]
    exact (h a List.mem_cons_self b c).orI fun _ _ _ => cmpL_tr_of l r t fun x hx => h x (List.mem_cons_of_mem _ hx)
theorem size_item {x a : VD} (h : a ∈ x.items) : SizeOf.sizeOf a < SizeOf.sizeOf x := by
  have := List.sizeOf_lt_of_mem h
  cases x
  simp only [VD.items] at this
  simp
  omega
theorem cmpV_anti (x y : VD) : cmpV y x = -cmpV x y := by
  have H := fun a (h : a ∈ x.items) b => cmpV_anti a b
  rw [cmpV_form, cmpV_form]
  refine orI_anti (kindC_anti x y) fun hk => ?_
  have hk := kindC_zero hk
  rw [← hk]
  by_cases h0 : x.k = 0
  · rw [if_pos h0, if_pos h0]; rfl
  · rw [if_neg h0, if_neg h0]
    refine orI_anti (headC_anti x y hk) fun _ => ?_
    unfold restV
    exact orI_anti (cmpI_anti _ _) fun _ => orI_anti (cmpS_anti _ _) fun _ => cmpL_anti_of _ _ H
termination_by SizeOf.sizeOf x
decreasing_by exact size_item h
theorem cmpV_tr (x y z : VD) : Tr (cmpV x y) (cmpV y z) (cmpV x z) := by
  have H := fun a (h : a ∈ x.items) b c => cmpV_tr a b c
  rw [cmpV_form, cmpV_form, cmpV_form]
  refine (kindC_tr x y z).orI fun h1 h2 _ => ?_
  have hk1 := kindC_zero h1
  have hk2 := kindC_zero h2
  rw [← hk1]
  by_cases h0 : x.k = 0
  · rw [if_pos h0, if_pos h0]
    unfold Tr
    simp [h0]
  · rw [if_neg h0, if_neg h0, if_neg h0]
    refine (headC_tr x y z hk1 hk2).orI fun _ _ _ => ?_
    unfold restV
    exact (cmpI_tr _ _ _).orI fun _ _ _ => (cmpS_tr _ _ _).orI fun _ _ _ => cmpL_tr_of _ _ _ H
termination_by SizeOf.sizeOf x
decreasing_by exact size_item h
theorem cmpL_anti (l r : List VD) : cmpL r l = -cmpL l r := cmpL_anti_of l r fun a _ b => cmpV_anti a b
theorem cmpL_tr (l r t : List VD) : Tr (cmpL l r) (cmpL r t) (cmpL l t) := cmpL_tr_of l r t fun a _ b c => cmpV_tr a b c
theorem cmpL_self (l : List VD) : cmpL l l = 0 := by have := cmpL_anti l l; omega
theorem cmpV_self (x : VD) : cmpV x x = 0 := by have := cmpV_anti x x; omega
end Go.Proofs.YthejmnmkbldacaaGreatDoor

namespace Go.Proofs.YthejmnmkbldacaaGreatDoor
open Go.RowKit
attribute [local go_sem] Tab.Env.ev Tab.Env.get

set_option maxHeartbeats 400000 in
theorem compareRows_any (F F' : Nat → Prop) (v1 v2 : Value) (l1 l2 : List VD) (w : World) (h1 : RI w F v1 l1) (h2 : RI w F' v2 l2) :
    Calls Tryz.prog 106 #[v1, v2] w fun e w' => e = .returned (.int .i64 (cmpL l1 l2)) ∧ Below w.heap.size w w' := by
  have HC := Lib.hid (compareFunc_any F F' v1 v2 l1 l2 w h1 h2 fun x _ y => compareAt x y)
  clear h1 h2
  go_enter Tryz.func106, Tryz.ntmps106
  go_wp2_with (go_at_call 146; refine HC.out.mono ?_; rintro e w' ⟨rfl, hb⟩)
  go_ret
  exact ⟨rfl, by assumption⟩

theorem cmpV_row (l r : List VD) : cmpV (.mk 6 0 0 .empty l) (.mk 6 0 0 .empty r) = cmpL l r := by
  rw [cmpV_form, orI_neg (by unfold kindC; simp [VD.k])]
  have h : headC (.mk 6 0 0 .empty l) (.mk 6 0 0 .empty r) = 0 := by
    unfold headC
    simp [VD.k, VD.n, cmpI]
  rw [if_neg (show ¬ (VD.mk 6 0 0 .empty l).k = 0 by show ¬ (6 : Int) = 0; decide), orI_neg h]
  unfold restV
  simp only [VD.sc, VD.s, VD.items]
  rw [orI_neg (cmpI_eq rfl), orI_neg (by rw [cmpS]; have := cmpBytes_anti ByteArray.empty.data.toList ByteArray.empty.data.toList; omega)]

end Go.Proofs.YthejmnmkbldacaaGreatDoor

namespace Go.Proofs.YthejmnmkbldacaaGreatDoor
open Go.RowKit
attribute [local go_sem] Tab.Env.ev Tab.Env.get

set_option maxHeartbeats 400000 in
theorem compareRowsR_any (F F' : Nat → Prop) (v1 v2 : Value) (l1 l2 : List VD) (w : World) (h1 : RI w F v1 l1) (h2 : RI w F' v2 l2) :
    Calls Tryz.prog 64 #[v1, v2] w fun e w' => e = .returned (.int .i64 (cmpL l1 l2)) ∧ Below w.heap.size w w' := by
  have hk : ∀ l, (VD.mk 6 0 0 .empty l).ok := fun l => ⟨show I64 6 by unfold I64; decide, show I64 0 by unfold I64; decide, show I64 0 by unfold I64; decide, Nat.zero_le _⟩
  obtain ⟨A1, c1, _, _, rfl, _⟩ := h1.shape
  obtain ⟨A2, c2, _, _, rfl, _⟩ := h2.shape
  have HC := Lib.hid (compareRAt (.mk 6 0 0 .empty l1) (.mk 6 0 0 .empty l2) F F' (.agg #[.int .i64 6, .int .i64 0, .int .i64 0, .string .empty, .slice A1 l1.length c1]) (.agg #[.int .i64 6, .int .i64 0, .int .i64 0, .string .empty, .slice A2 l2.length c2]) w ⟨A1, c1, rfl, hk _, h1⟩ ⟨A2, c2, rfl, hk _, h2⟩)
  rw [cmpV_row] at HC
  clear h1 h2
  go_enter Tryz.func64, Tryz.ntmps64
  go_wp2_with fail
  refine HC.out.mono ?_
  rintro e w1 ⟨rfl, hb⟩
  go_wp2_with fail
  go_ret
  exact ⟨rfl, hb⟩
end Go.Proofs.YthejmnmkbldacaaGreatDoor

namespace Go.Proofs.YthejmnmkbldacaaGreatDoor
open Go Go.RowKit

section
variable {α : Type} [Inhabited α]
def dat (l : List α) (i : Nat) : α := l.getD i default
theorem dat_some {l : List α} {i : Nat} (h : i < l.length) : l[i]? = some (dat l i) := by
  unfold dat
  rw [List.getD_eq_getElem?_getD, List.getElem?_eq_getElem h]
  rfl
theorem dat_eq {l : List α} {i : Nat} (h : i < l.length) : dat l i = l[i] := by
  unfold dat
  rw [List.getD_eq_getElem?_getD, List.getElem?_eq_getElem h]
  rfl
theorem dat_set {l : List α} {i k : Nat} (x : α) (h : i < l.length) : dat (l.set i x) k = if i = k then x else dat l k := by
  unfold dat
  rw [List.getD_eq_getElem?_getD, List.getElem?_set]
  by_cases e : i = k
  · rw [if_pos e, if_pos e, if_pos h]; rfl
  · rw [if_neg e, if_neg e, List.getD_eq_getElem?_getD]
theorem dat_mem {l : List α} {i : Nat} (h : i < l.length) : dat l i ∈ l := by rw [dat_eq h]; exact List.getElem_mem h

/-- the two at i and j change places -/
def swapD (l : List α) (i j : Nat) : List α := (l.set i (dat l j)).set j (dat l i)
theorem swapD_length (l : List α) (i j : Nat) : (swapD l i j).length = l.length := by simp [swapD]
theorem swapD_perm {l : List α} {i j : Nat} (hi : i < l.length) (hj : j < l.length) : (swapD l i j).Perm l := by
  unfold swapD
  rw [dat_eq hi, dat_eq hj]
  exact List.set_set_perm hi hj
theorem swapD_at {l : List α} {i j k : Nat} (hi : i < l.length) (hj : j < l.length) : dat (swapD l i j) k = if j = k then dat l i else if i = k then dat l j else dat l k := by
  unfold swapD
  rw [dat_set _ (by simpa using hj), dat_set _ hi]

/-- a total preorder -/
structure CmpOrd (c : α → α → Int) : Prop where
  anti : ∀ a b, c b a = -c a b
  trans : ∀ {a b d}, c a b ≤ 0 → c b d ≤ 0 → c a d ≤ 0
omit [Inhabited α] in
theorem CmpOrd.self {c : α → α → Int} (H : CmpOrd c) (a : α) : c a a = 0 := by have := H.anti a a; omega

/-- the same elements, changed from a to b alone -/
structure SameOut (l l' : List α) (a b : Nat) : Prop where
  perm : l'.Perm l
  out : ∀ k, k < a ∨ b ≤ k → dat l' k = dat l k
  inn : ∀ k, a ≤ k → k < b → ∃ j, a ≤ j ∧ j < b ∧ dat l' k = dat l j
theorem SameOut.refl (l : List α) (a b : Nat) : SameOut l l a b := ⟨.refl _, fun _ _ => rfl, fun k h1 h2 => ⟨k, h1, h2, rfl⟩⟩
theorem SameOut.trans {l l' l'' : List α} {a b : Nat} (h : SameOut l l' a b) (h' : SameOut l' l'' a b) : SameOut l l'' a b :=
  ⟨h'.perm.trans h.perm, fun k hk => (h'.out k hk).trans (h.out k hk), fun k h1 h2 => by
    obtain ⟨j, h3, h4, e⟩ := h'.inn k h1 h2
    obtain ⟨i, h5, h6, e'⟩ := h.inn j h3 h4
    exact ⟨i, h5, h6, e.trans e'⟩⟩
theorem SameOut.wide {l l' : List α} {a b a' b' : Nat} (h : SameOut l l' a b) (ha : a' ≤ a) (hb : b ≤ b') : SameOut l l' a' b' :=
  ⟨h.perm, fun k hk => h.out k (by omega), fun k h1 h2 => by
    by_cases hk : a ≤ k ∧ k < b
    · obtain ⟨j, h3, h4, e⟩ := h.inn k hk.1 hk.2
      exact ⟨j, by omega, by omega, e⟩
    · exact ⟨k, h1, h2, h.out k (by omega)⟩⟩
theorem SameOut.swap {l : List α} {i j a b : Nat} (hi : i < l.length) (hj : j < l.length) (h1 : a ≤ i) (h2 : i < b) (h3 : a ≤ j) (h4 : j < b) : SameOut l (swapD l i j) a b :=
  ⟨swapD_perm hi hj, fun k hk => by rw [swapD_at hi hj, if_neg (by omega), if_neg (by omega)], fun k k1 k2 => by
    rw [swapD_at hi hj]
    by_cases e : j = k
    · rw [if_pos e]; exact ⟨i, h1, h2, rfl⟩
    · rw [if_neg e]
      by_cases e' : i = k
      · rw [if_pos e']; exact ⟨j, h3, h4, rfl⟩
      · rw [if_neg e']; exact ⟨k, k1, k2, rfl⟩⟩
theorem SameOut.len {l l' : List α} {a b : Nat} (h : SameOut l l' a b) : l'.length = l.length := h.perm.length_eq

variable {c : α → α → Int}
/-- in order from a to b -/
def SortedOn (c : α → α → Int) (l : List α) (a b : Nat) : Prop := ∀ k, a ≤ k → k + 1 < b → c (dat l k) (dat l (k + 1)) ≤ 0
theorem SortedOn.two (H : CmpOrd c) {l : List α} {a b : Nat} (h : SortedOn c l a b) : ∀ (d i : Nat), a ≤ i → i + d < b → c (dat l i) (dat l (i + d)) ≤ 0
  | 0, i, _, _ => Int.le_of_eq (H.self _)
  | d + 1, i, h1, h2 => H.trans (SortedOn.two H h d i h1 (by omega)) (h (i + d) (by omega) (by omega))
theorem SortedOn.le (H : CmpOrd c) {l : List α} {a b : Nat} (h : SortedOn c l a b) {i j : Nat} (h1 : a ≤ i) (h2 : i ≤ j) (h3 : j < b) : c (dat l i) (dat l j) ≤ 0 := by
  have := h.two H (j - i) i h1 (by omega)
  rwa [show i + (j - i) = j by omega] at this
theorem SortedOn.narrow {l : List α} {a b a' b' : Nat} (h : SortedOn c l a b) (ha : a ≤ a') (hb : b' ≤ b) : SortedOn c l a' b' := fun k h1 h2 => h k (by omega) (by omega)
theorem SortedOn.tiny (l : List α) {a b : Nat} (h : b ≤ a + 1) : SortedOn c l a b := fun k h1 h2 => by omega
theorem SortedOn.congr {l l' : List α} {a b : Nat} (h : SortedOn c l a b) (he : ∀ k, a ≤ k → k < b → dat l' k = dat l k) : SortedOn c l' a b := fun k h1 h2 => by
  rw [he k h1 (by omega), he (k + 1) (by omega) h2]; exact h k h1 h2

/-- where insertion's inner loop stands -/
structure Ins (c : α → α → Int) (l0 l : List α) (a i j : Nat) : Prop where
  same : SameOut l0 l a (i + 1)
  lo : a ≤ j
  hi : j ≤ i
  adj : ∀ k, a ≤ k → k + 1 ≤ i → k + 1 ≠ j → c (dat l k) (dat l (k + 1)) ≤ 0
  over : a < j → j < i → c (dat l (j - 1)) (dat l (j + 1)) ≤ 0
theorem Ins.start {l : List α} {a i : Nat} (h : SortedOn c l a i) (ha : a ≤ i) : Ins c l l a i i :=
  ⟨.refl _ _ _, ha, Nat.le_refl _, fun k h1 h2 h3 => h k h1 (by omega), fun _ h => absurd h (Nat.lt_irrefl _)⟩
theorem Ins.step {l0 l : List α} {a i j : Nat} (h : Ins c l0 l a i j) (hlen : i < l.length) (hj : a < j) (hc : c (dat l j) (dat l (j - 1)) < 0) : Ins c l0 (swapD l j (j - 1)) a i (j - 1) := by
  have hi := h.hi
  have e : ∀ k, dat (swapD l j (j - 1)) k = if j - 1 = k then dat l j else if j = k then dat l (j - 1) else dat l k := fun k => swapD_at (by omega) (by omega)
  refine ⟨h.same.trans (.swap (by omega) (by omega) (by omega) (by omega) (by omega) (by omega)), by omega, by omega, fun k h1 h2 h3 => ?_, fun h1 h2 => ?_⟩
  · rw [e, e]
    by_cases k1 : k = j - 1
    · rw [if_pos k1.symm, if_neg (by omega), if_pos (by omega)]
      omega
    · by_cases k2 : k = j
      · rw [if_neg (by omega), if_pos k2.symm, if_neg (by omega), if_neg (by omega), k2]
        exact h.over hj (by omega)
      · rw [if_neg (by omega), if_neg (by omega), if_neg (by omega), if_neg (by omega)]
        exact h.adj k h1 h2 (by omega)
  · rw [e, e, if_neg (by omega), if_neg (by omega), if_neg (by omega), if_pos (by omega)]
    have := h.adj (j - 1 - 1) (by omega) (by omega) (by omega)
    rwa [show j - 1 - 1 + 1 = j - 1 by omega] at this
theorem Ins.done (H : CmpOrd c) {l0 l : List α} {a i j : Nat} (h : Ins c l0 l a i j) (hj : j = a ∨ ¬ c (dat l j) (dat l (j - 1)) < 0) : SortedOn c l a (i + 1) := by
  intro k h1 h2
  by_cases k1 : k + 1 = j
  · rcases hj with e | e
    · omega
    · have := H.anti (dat l j) (dat l (j - 1))
      rw [← k1] at this e
      rw [show k + 1 - 1 = k by omega] at this e
      omega
  · exact h.adj k h1 (by omega) k1

/-! swapping two ranges -/
/-- i of n places of two ranges have been swapped -/
structure Swr (l l' : List α) (a b i : Nat) : Prop where
  perm : l'.Perm l
  at_ : ∀ k, dat l' k = if a ≤ k ∧ k < a + i then dat l (b + (k - a)) else if b ≤ k ∧ k < b + i then dat l (a + (k - b)) else dat l k
theorem Swr.start (l : List α) (a b : Nat) : Swr l l a b 0 := ⟨.refl _, fun k => by rw [if_neg (by omega), if_neg (by omega)]⟩
theorem Swr.step {l l' : List α} {a b i n : Nat} (h : Swr l l' a b i) (hi : i < n) (hab : a + n ≤ b) (hb : b + n ≤ l.length) : Swr l (swapD l' (a + i) (b + i)) a b (i + 1) := by
  have hl := h.perm.length_eq
  refine ⟨(swapD_perm (by omega) (by omega)).trans h.perm, fun k => ?_⟩
  rw [swapD_at (by omega) (by omega)]
  by_cases k1 : b + i = k
  · rw [if_pos k1, h.at_, if_neg (by omega), if_neg (by omega), if_neg (by omega), if_pos (by omega)]
    congr 1
    omega
  · rw [if_neg k1]
    by_cases k2 : a + i = k
    · rw [if_pos k2, h.at_, if_neg (by omega), if_neg (by omega), if_pos (by omega)]
      congr 1
      omega
    · rw [if_neg k2, h.at_]
      by_cases k3 : a ≤ k ∧ k < a + i
      · rw [if_pos k3, if_pos (by omega)]
      · rw [if_neg k3, if_neg (show ¬ (a ≤ k ∧ k < a + (i + 1)) by omega)]
        by_cases k4 : b ≤ k ∧ k < b + i
        · rw [if_pos k4, if_pos (by omega)]
        · rw [if_neg k4, if_neg (by omega)]

/-! the rotation -/
/-- what the row from a to b is when its parts from a to m and from m to b have changed places -/
def rotAt (l : List α) (a m b k : Nat) : α := if a ≤ k ∧ k < a + (b - m) then dat l (m + (k - a)) else if a + (b - m) ≤ k ∧ k < b then dat l (k - (b - m)) else dat l k
/-- where the rotation stands: the parts of i and j elements on both sides of m are still to change places -/
structure Rot (l l' : List α) (a m b i j : Nat) : Prop where
  same : SameOut l l' a b
  bi : i ≤ m - a
  bj : j ≤ b - m
  at_ : ∀ k, rotAt l' (m - i) m (m + j) k = rotAt l a m b k
theorem Rot.start (l : List α) {a m b : Nat} (h1 : a ≤ m) (h2 : m ≤ b) : Rot l l a m b (m - a) (b - m) :=
  ⟨.refl _ _ _, Nat.le_refl _, Nat.le_refl _, fun k => by rw [show m - (m - a) = a by omega, show m + (b - m) = b by omega]⟩
theorem Swr.sameOut {l l' : List α} {x y n a b : Nat} (h : Swr l l' x y n) (hax : a ≤ x) (hxy : x + n ≤ y) (hyb : y + n ≤ b) : SameOut l l' a b :=
  ⟨h.perm, fun k hk => by rw [h.at_, if_neg (by omega), if_neg (by omega)], fun k h1 h2 => by
    rw [h.at_]
    by_cases k1 : x ≤ k ∧ k < x + n
    · rw [if_pos k1]; exact ⟨_, by omega, by omega, rfl⟩
    · rw [if_neg k1]
      by_cases k2 : y ≤ k ∧ k < y + n
      · rw [if_pos k2]; exact ⟨_, by omega, by omega, rfl⟩
      · rw [if_neg k2]; exact ⟨k, h1, h2, rfl⟩⟩
theorem Rot.left {l l' l'' : List α} {a m b i j : Nat} (h : Rot l l' a m b i j) (ham : a ≤ m) (hmb : m ≤ b) (hij : j < i) (hs : Swr l' l'' (m - i) m j) : Rot l l'' a m b (i - j) j := by
  have hi := h.bi
  have hj := h.bj
  refine ⟨h.same.trans (hs.sameOut (by omega) (by omega) (by omega)), by omega, hj, fun k => ?_⟩
  rw [← h.at_ k]
  unfold rotAt
  simp only [hs.at_]
  by_cases k1 : m - i ≤ k ∧ k < m - i + j
  · rw [if_neg (by omega), if_neg (by omega), if_pos (by omega), if_pos (by omega)]
  · by_cases k2 : m - i + j ≤ k ∧ k < m + j
    · by_cases k3 : k < m - (i - j) + j
      · rw [if_pos (by omega), if_neg (by omega), if_pos (by omega), if_neg (by omega), if_pos (by omega)]
        congr 1
        omega
      · rw [if_neg (by omega), if_pos (by omega), if_neg (by omega), if_neg (by omega), if_neg (by omega), if_pos (by omega)]
    · rw [if_neg (by omega), if_neg (by omega), if_neg (by omega), if_neg (by omega), if_neg (by omega), if_neg (by omega)]
theorem Rot.right {l l' l'' : List α} {a m b i j : Nat} (h : Rot l l' a m b i j) (ham : a ≤ m) (hmb : m ≤ b) (hij : i < j) (hs : Swr l' l'' (m - i) (m + j - i) i) : Rot l l'' a m b i (j - i) := by
  have hi := h.bi
  have hj := h.bj
  refine ⟨h.same.trans (hs.sameOut (by omega) (by omega) (by omega)), hi, by omega, fun k => ?_⟩
  rw [← h.at_ k]
  unfold rotAt
  simp only [hs.at_]
  by_cases k1 : m + j - i ≤ k ∧ k < m + j
  · rw [if_neg (by omega), if_neg (by omega), if_neg (by omega), if_pos (by omega), if_neg (by omega), if_pos (by omega)]
    congr 1
    omega
  · by_cases k2 : m - i ≤ k ∧ k < m + j - i
    · by_cases k3 : k < m - i + (j - i)
      · rw [if_pos (by omega), if_neg (by omega), if_neg (by omega), if_pos (by omega)]
      · rw [if_neg (by omega), if_pos (by omega), if_pos (by omega), if_pos (by omega)]
        congr 1
        omega
    · rw [if_neg (by omega), if_neg (by omega), if_neg (by omega), if_neg (by omega), if_neg (by omega), if_neg (by omega)]
theorem Rot.last {l l' l'' : List α} {a m b i : Nat} (h : Rot l l' a m b i i) (ham : a ≤ m) (hmb : m ≤ b) (hs : Swr l' l'' (m - i) m i) : SameOut l l'' a b ∧ ∀ k, dat l'' k = rotAt l a m b k := by
  have hi := h.bi
  have hj := h.bj
  refine ⟨h.same.trans (hs.sameOut (by omega) (by omega) (by omega)), fun k => ?_⟩
  rw [← h.at_ k, hs.at_]
  unfold rotAt
  by_cases k1 : m - i ≤ k ∧ k < m
  · rw [if_pos (by omega), if_pos (by omega)]
  · by_cases k2 : m ≤ k ∧ k < m + i
    · rw [if_neg (by omega), if_pos (by omega), if_neg (by omega), if_pos (by omega)]
      congr 1
      omega
    · rw [if_neg (by omega), if_neg (by omega), if_neg (by omega), if_neg (by omega)]
theorem rotAt_left {l : List α} {m b k : Nat} (hk : m ≤ b) : rotAt l m m b k = dat l k := by
  unfold rotAt
  by_cases k1 : m ≤ k ∧ k < m + (b - m)
  · rw [if_pos k1]; congr 1; omega
  · rw [if_neg k1, if_neg (by omega)]
theorem rotAt_right {l : List α} {a m k : Nat} : rotAt l a m m k = dat l k := by
  unfold rotAt
  rw [if_neg (by omega)]
  by_cases k1 : a + (m - m) ≤ k ∧ k < m
  · rw [if_pos k1]; congr 1; omega
  · rw [if_neg k1]

/-! the merge -/
/-- the first element moves up to place k -/
structure Up (l l' : List α) (a k : Nat) : Prop where
  same : SameOut l l' a (k + 1)
  at_ : ∀ x, dat l' x = if a ≤ x ∧ x < k then dat l (x + 1) else if x = k then dat l a else dat l x
theorem Up.start (l : List α) (a : Nat) : Up l l a a := ⟨.refl _ _ _, fun x => by
  rw [if_neg (by omega)]
  by_cases h : x = a
  · rw [if_pos h, h]
  · rw [if_neg h]⟩
theorem Up.step {l l' : List α} {a k : Nat} (h : Up l l' a k) (hak : a ≤ k) (hk : k + 1 < l.length) : Up l (swapD l' k (k + 1)) a (k + 1) := by
  have hl := h.same.len
  refine ⟨(h.same.wide (Nat.le_refl _) (Nat.le_succ _)).trans (.swap (by omega) (by omega) (by omega) (by omega) (by omega) (by omega)), fun x => ?_⟩
  rw [swapD_at (by omega) (by omega), h.at_, h.at_, h.at_]
  by_cases x1 : k + 1 = x
  · rw [if_pos x1, if_neg (by omega), if_pos rfl, if_neg (by omega), if_pos x1.symm]
  · rw [if_neg x1]
    by_cases x2 : k = x
    · rw [if_pos x2, if_neg (by omega), if_neg (by omega), if_pos (by omega), x2]
    · rw [if_neg x2, if_neg (show ¬ x = k by omega), if_neg (show ¬ x = k + 1 by omega)]
      by_cases x3 : a ≤ x ∧ x < k
      · rw [if_pos x3, if_pos (by omega)]
      · rw [if_neg x3, if_neg (by omega)]
theorem Up.sorted (H : CmpOrd c) {l l' : List α} {a i b : Nat} (hm : a + 1 ≤ i) (hib : i ≤ b) (hs : SortedOn c l (a + 1) b) (h1 : ∀ k, a + 1 ≤ k → k < i → c (dat l k) (dat l a) < 0) (h2 : ∀ k, i ≤ k → k < b → ¬ c (dat l k) (dat l a) < 0)
    (h : Up l l' a (i - 1)) : SameOut l l' a b ∧ SortedOn c l' a b := by
  refine ⟨h.same.wide (Nat.le_refl _) (by omega), fun k hk1 hk2 => ?_⟩
  rw [h.at_, h.at_]
  by_cases k1 : k + 1 < i - 1
  · rw [if_pos (by omega), if_pos (by omega)]
    exact hs (k + 1) (by omega) (by omega)
  · by_cases k2 : k + 1 = i - 1
    · rw [if_pos (by omega), if_neg (by omega), if_pos k2]
      exact Int.le_of_lt (h1 (k + 1) (by omega) (by omega))
    · by_cases k3 : k = i - 1
      · rw [if_neg (by omega), if_pos k3, if_neg (by omega), if_neg (by omega)]
        have := h2 (k + 1) (by omega) (by omega)
        have := H.anti (dat l (k + 1)) (dat l a)
        omega
      · rw [if_neg (by omega), if_neg k3, if_neg (by omega), if_neg (by omega)]
        exact hs k (by omega) hk2
/-- the last element moves down to place k -/
structure Down (l l' : List α) (m k : Nat) : Prop where
  same : SameOut l l' k (m + 1)
  at_ : ∀ x, dat l' x = if k < x ∧ x ≤ m then dat l (x - 1) else if x = k then dat l m else dat l x
theorem Down.start (l : List α) (m : Nat) : Down l l m m := ⟨.refl _ _ _, fun x => by
  rw [if_neg (by omega)]
  by_cases h : x = m
  · rw [if_pos h, h]
  · rw [if_neg h]⟩
theorem Down.step {l l' : List α} {m k : Nat} (h : Down l l' m k) (hkm : k ≤ m) (hk : 0 < k) (hm : m < l.length) : Down l (swapD l' k (k - 1)) m (k - 1) := by
  have hl := h.same.len
  refine ⟨(h.same.wide (by omega) (Nat.le_refl _)).trans (.swap (by omega) (by omega) (by omega) (by omega) (by omega) (by omega)), fun x => ?_⟩
  rw [swapD_at (by omega) (by omega), h.at_, h.at_, h.at_]
  by_cases x1 : k - 1 = x
  · rw [if_pos x1, if_neg (by omega), if_pos rfl, if_neg (by omega), if_pos x1.symm]
  · rw [if_neg x1]
    by_cases x2 : k = x
    · rw [if_pos x2, if_neg (by omega), if_neg (by omega), if_pos (by omega), x2]
    · rw [if_neg x2, if_neg (show ¬ x = k by omega), if_neg (show ¬ x = k - 1 by omega)]
      by_cases x3 : k < x ∧ x ≤ m
      · rw [if_pos x3, if_pos (by omega)]
      · rw [if_neg x3, if_neg (by omega)]
theorem Down.sorted (H : CmpOrd c) {l l' : List α} {a i m : Nat} (hai : a ≤ i) (him : i ≤ m) (hs : SortedOn c l a m) (h1 : ∀ k, a ≤ k → k < i → ¬ c (dat l m) (dat l k) < 0) (h2 : ∀ k, i ≤ k → k < m → c (dat l m) (dat l k) < 0)
    (h : Down l l' m i) : SameOut l l' a (m + 1) ∧ SortedOn c l' a (m + 1) := by
  refine ⟨h.same.wide hai (Nat.le_refl _), fun k hk1 hk2 => ?_⟩
  rw [h.at_, h.at_]
  by_cases k1 : i < k
  · rw [if_pos (by omega), if_pos (by omega)]
    have := hs (k - 1) (by omega) (by omega)
    rw [show k - 1 + 1 = k by omega] at this
    exact this
  · by_cases k2 : k = i
    · rw [if_neg (by omega), if_pos k2, if_pos (by omega)]
      exact Int.le_of_lt (h2 k (by omega) (by omega))
    · by_cases k3 : k + 1 = i
      · rw [if_neg (by omega), if_neg k2, if_neg (by omega), if_pos k3]
        have := h1 k (by omega) (by omega)
        have := H.anti (dat l m) (dat l k)
        omega
      · rw [if_neg (by omega), if_neg k2, if_neg (by omega), if_neg k3]
        exact hs k hk1 (by omega)

/-- where the search for the halves stands -/
structure Sm (c : α → α → Int) (l : List α) (p s0 r0 s r : Nat) : Prop where
  lo : s0 ≤ s
  sr : s ≤ r
  hi : r ≤ r0
  left : s = s0 ∨ ¬ c (dat l (p - (s - 1))) (dat l (s - 1)) < 0
  right : r = r0 ∨ c (dat l (p - r)) (dat l r) < 0
theorem Sm.start (l : List α) (p : Nat) {s0 r0 : Nat} (h : s0 ≤ r0) : Sm c l p s0 r0 s0 r0 := ⟨Nat.le_refl _, h, Nat.le_refl _, .inl rfl, .inl rfl⟩
theorem Sm.up {l : List α} {p s0 r0 s r x : Nat} (h : Sm c l p s0 r0 s r) (h1 : s ≤ x) (h2 : x < r) (hc : ¬ c (dat l (p - x)) (dat l x) < 0) : Sm c l p s0 r0 (x + 1) r :=
  ⟨by have := h.lo; omega, h2, h.hi, .inr (by rwa [show x + 1 - 1 = x by omega]), h.right⟩
theorem Sm.down {l : List α} {p s0 r0 s r x : Nat} (h : Sm c l p s0 r0 s r) (h1 : s ≤ x) (h2 : x < r) (hc : c (dat l (p - x)) (dat l x) < 0) : Sm c l p s0 r0 s x :=
  ⟨h.lo, h1, by have := h.hi; omega, h.left, .inr hc⟩

/-- behind the rotation: four parts, each in order, and what is left of mid at most what is right of it -/
structure Quart (c : α → α → Int) (l : List α) (a s mid e b : Nat) : Prop where
  p1 : SortedOn c l a s
  p2 : SortedOn c l s mid
  p3 : SortedOn c l mid e
  p4 : SortedOn c l e b
  le : ∀ i j, a ≤ i → i < mid → mid ≤ j → j < b → c (dat l i) (dat l j) ≤ 0
theorem Quart.of (H : CmpOrd c) {l l' : List α} {a s m e b mid : Nat} (h1 : a ≤ s) (h2 : s ≤ m) (h3 : m ≤ e) (h4 : e ≤ b) (hn : s + e = mid + m) (hL : SortedOn c l a m) (hR : SortedOn c l m b)
    (b1 : a < s → e < b → ¬ c (dat l e) (dat l (s - 1)) < 0) (b2 : m < e → s < m → c (dat l (e - 1)) (dat l s) < 0) (hr : ∀ k, dat l' k = rotAt l s m e k) : Quart c l' a s mid e b := by
  have r : ∀ k, dat l' k = if s ≤ k ∧ k < mid then dat l (m + (k - s)) else if mid ≤ k ∧ k < e then dat l (k - (e - m)) else dat l k := fun k => by
    rw [hr]
    unfold rotAt
    rw [show s + (e - m) = mid by omega]
  refine ⟨fun k k1 k2 => ?_, fun k k1 k2 => ?_, fun k k1 k2 => ?_, fun k k1 k2 => ?_, fun i j i1 i2 j1 j2 => ?_⟩
  · rw [r, r, if_neg (by omega), if_neg (by omega), if_neg (by omega), if_neg (by omega)]
    exact hL k k1 (by omega)
  · rw [r, r, if_pos (by omega), if_pos (by omega), show m + (k + 1 - s) = m + (k - s) + 1 by omega]
    exact hR _ (by omega) (by omega)
  · rw [r, r, if_neg (by omega), if_pos (by omega), if_neg (by omega), if_pos (by omega), show k + 1 - (e - m) = k - (e - m) + 1 by omega]
    exact hL _ (by omega) (by omega)
  · rw [r, r, if_neg (by omega), if_neg (by omega), if_neg (by omega), if_neg (by omega)]
    exact hR _ (by omega) (by omega)
  · rw [r i, r j]
    by_cases c1 : s ≤ i
    · rw [if_pos (by omega)]
      by_cases c2 : j < e
      · rw [if_neg (by omega), if_pos (by omega)]
        have q1 := hR.le H (i := m + (i - s)) (j := e - 1) (by omega) (by omega) (by omega)
        have q2 := b2 (by omega) (by omega)
        have q3 := hL.le H (i := s) (j := j - (e - m)) (by omega) (by omega) (by omega)
        exact H.trans q1 (H.trans (Int.le_of_lt q2) q3)
      · rw [if_neg (by omega), if_neg (by omega)]
        exact hR.le H (by omega) (by omega) (by omega)
    · rw [if_neg (by omega), if_neg (by omega)]
      by_cases c2 : j < e
      · rw [if_neg (by omega), if_pos (by omega)]
        exact hL.le H (by omega) (by omega) (by omega)
      · rw [if_neg (by omega), if_neg (by omega)]
        have q1 := hL.le H (i := i) (j := s - 1) (by omega) (by omega) (by omega)
        have q2 := b1 (by omega) (by omega)
        have q2' := H.anti (dat l e) (dat l (s - 1))
        have q3 := hR.le H (i := e) (j := j) (by omega) (by omega) (by omega)
        exact H.trans q1 (H.trans (by omega) q3)
/-- the search is over: where the halves part -/
theorem Sm.quart (H : CmpOrd c) {l : List α} {a m b mid s0 r0 s : Nat} (h : Sm c l (mid + m - 1) s0 r0 s s) (ham : a < m) (hmb : m < b) (hmid : mid = (a + b) / 2)
    (h0 : (mid < m ∧ s0 = mid + m - b ∧ r0 = mid) ∨ (m ≤ mid ∧ s0 = a ∧ r0 = m)) (hL : SortedOn c l a m) (hR : SortedOn c l m b) :
    a ≤ s ∧ s ≤ m ∧ s ≤ mid ∧ s ≤ mid + m ∧ m ≤ mid + m - s ∧ mid + m - s ≤ b ∧ mid ≤ mid + m - s ∧ ∀ l', (∀ k, dat l' k = rotAt l s m (mid + m - s) k) → Quart c l' a s mid (mid + m - s) b := by
  have g1 := h.lo
  have g2 := h.hi
  refine ⟨by omega, by omega, by omega, by omega, by omega, by omega, by omega, fun l' hr => Quart.of H (m := m) (by omega) (by omega) (by omega) (by omega) (by omega) hL hR (fun q1 q2 => ?_) (fun q1 q2 => ?_) hr⟩
  · rcases h.left with e | e
    · omega
    · rwa [show mid + m - 1 - (s - 1) = mid + m - s by omega] at e
  · rcases h.right with e | e
    · omega
    · rwa [show mid + m - 1 - s = mid + m - s - 1 by omega] at e
theorem Quart.done {l l1 l2 : List α} {a s mid e b : Nat} (h : Quart c l a s mid e b) (ham : a ≤ mid) (hmb : mid ≤ b) (h1 : SameOut l l1 a mid) (s1 : SortedOn c l1 a mid) (h2 : SameOut l1 l2 mid b) (s2 : SortedOn c l2 mid b) : SameOut l l2 a b ∧ SortedOn c l2 a b := by
  refine ⟨(h1.wide (Nat.le_refl _) hmb).trans (h2.wide ham (Nat.le_refl _)), fun k k1 k2 => ?_⟩
  by_cases c1 : k + 1 < mid
  · rw [h2.out k (by omega), h2.out (k + 1) (by omega)]
    exact s1 k k1 c1
  · by_cases c2 : k + 1 = mid
    · rw [h2.out k (by omega)]
      obtain ⟨i, i1, i2, e1⟩ := h1.inn k k1 (by omega)
      obtain ⟨j, j1, j2, e2⟩ := h2.inn (k + 1) (by omega) k2
      rw [e1, e2, h1.out j (by omega)]
      exact h.le i j i1 i2 j1 j2
    · exact s2 k (by omega) k2
theorem Quart.left_done {l : List α} {a s mid e b : Nat} (h : Quart c l a s mid e b) (hx : ¬ (a < s ∧ s < mid)) (h1 : a ≤ s) (h2 : s ≤ mid) : SortedOn c l a mid := by
  by_cases e1 : a = s
  · rw [e1]; exact h.p2
  · have : s = mid := by omega
    rw [← this]; exact h.p1
theorem Quart.right_done {l l' : List α} {a s mid e b : Nat} (h : Quart c l a s mid e b) (hs : SameOut l l' a mid) (hx : ¬ (mid < e ∧ e < b)) (h1 : mid ≤ e) (h2 : e ≤ b) : SortedOn c l' mid b := by
  refine SortedOn.congr (l := l) ?_ (fun k k1 _ => hs.out k (by omega))
  by_cases e1 : mid = e
  · rw [e1]; exact h.p4
  · have : e = b := by omega
    rw [← this]; exact h.p3
theorem Quart.right_parts {l l' : List α} {a s mid e b : Nat} (h : Quart c l a s mid e b) (hs : SameOut l l' a mid) (hm : mid ≤ e) : SortedOn c l' mid e ∧ SortedOn c l' e b :=
  ⟨h.p3.congr fun k k1 _ => hs.out k (by omega), h.p4.congr fun k k1 _ => hs.out k (by omega)⟩

/-! blocks -/
/-- blocks of x elements are in order, up to place a; behind it blocks of y elements -/
def Blocks (c : α → α → Int) (l : List α) (x y a n : Nat) : Prop := ∀ k, k + 1 < n → (k + 1) % (if k + 1 < a then x else y) ≠ 0 → c (dat l k) (dat l (k + 1)) ≤ 0
theorem mod_in {s u k : Nat} (h1 : s * u < k) (h2 : k < s * u + s) : k % s ≠ 0 := by
  rw [show k = s * u + (k - s * u) by omega, Nat.mul_add_mod, Nat.mod_eq_of_lt (by omega)]
  omega
/-- insertion sort of the block behind a -/
theorem Blocks.insert {l l' : List α} {s u a b : Nat} (ha : a = s * u) (hs : SameOut l l' a b) (hso : SortedOn c l' a b) (h : ∀ k, k + 1 < a → (k + 1) % s ≠ 0 → c (dat l k) (dat l (k + 1)) ≤ 0) : ∀ k, k + 1 < b → (k + 1) % s ≠ 0 → c (dat l' k) (dat l' (k + 1)) ≤ 0 := by
  intro k k1 k2
  by_cases c1 : k + 1 < a
  · rw [hs.out k (by omega), hs.out (k + 1) (by omega)]; exact h k c1 k2
  · by_cases c2 : k + 1 = a
    · exfalso
      rw [c2, ha, Nat.mul_mod_right] at k2
      exact k2 rfl
    · exact hso k (by omega) k1
theorem Blocks.parts {l : List α} {s u a b n : Nat} (h : Blocks c l (2 * s) s a n) (ha : a = 2 * s * u) (hb : b ≤ a + 2 * s) (hbn : b ≤ n) (hm : a + s ≤ b) : SortedOn c l a (a + s) ∧ SortedOn c l (a + s) b := by
  have e : 2 * s * u = s * (2 * u) := by rw [Nat.mul_comm 2 s, Nat.mul_assoc]
  have e2 : s * (2 * u + 1) = s * (2 * u) + s := Nat.mul_succ _ _
  refine ⟨fun k k1 k2 => ?_, fun k k1 k2 => ?_⟩
  · refine h k (by omega) ?_
    rw [if_neg (by omega)]
    exact mod_in (u := 2 * u) (by omega) (by omega)
  · refine h k (by omega) ?_
    rw [if_neg (by omega)]
    exact mod_in (u := 2 * u + 1) (by omega) (by omega)
theorem Blocks.merge {l l' : List α} {s u a b n : Nat} (h : Blocks c l (2 * s) s a n) (ha : a = 2 * s * u) (hab : a ≤ b) (hb : b = a + 2 * s ∨ b = n) (hs : SameOut l l' a b) (hso : SortedOn c l' a b) : Blocks c l' (2 * s) s b n := by
  intro k k1 k2
  by_cases c1 : k + 1 < a
  · rw [if_pos (by omega)] at k2
    rw [hs.out k (by omega), hs.out (k + 1) (by omega)]
    exact h k k1 (by rw [if_pos c1]; exact k2)
  · by_cases c2 : k + 1 = a
    · exfalso
      by_cases c3 : k + 1 < b
      · rw [if_pos c3, c2, ha, Nat.mul_mod_right] at k2
        exact k2 rfl
      · rw [if_neg c3, c2, ha, show 2 * s * u = s * (2 * u) by rw [Nat.mul_comm 2 s, Nat.mul_assoc], Nat.mul_mod_right] at k2
        exact k2 rfl
    · by_cases c3 : k + 1 < b
      · exact hso k (by omega) c3
      · rw [if_neg c3] at k2
        by_cases c4 : k + 1 = b
        · exfalso
          rcases hb with e | e
          · rw [c4, e, ha, show 2 * s * u + 2 * s = s * (2 * u + 2) by rw [Nat.mul_add, Nat.mul_comm 2 s, Nat.mul_assoc], Nat.mul_mod_right] at k2
            exact k2 rfl
          · omega
        · rw [hs.out k (by omega), hs.out (k + 1) (by omega)]
          exact h k k1 (by rw [if_neg (by omega)]; exact k2)
end
end Go.Proofs.YthejmnmkbldacaaGreatDoor
