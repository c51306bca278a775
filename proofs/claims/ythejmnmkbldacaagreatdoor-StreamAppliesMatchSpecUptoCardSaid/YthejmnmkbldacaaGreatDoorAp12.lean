/-
  What is proved: the order of values is a total preorder. Conditions: none. No program in sight.
  What is proved: how the program and the reference compare rows. Conditions: none.
  What is proved: a call of a function value in a region that draws; how a list of differences lies in memory. Conditions: none.
  What is proved: slices that read as a list of cells, and what append does with them. Conditions: none. No program in sight.
  What is proved: slices.Clone, slices.Clip of differences, of values, of rows. Conditions: none.
-/
import Derived.Test.YthejmnmkbldacaaGreatDoorAp11
import Derived.Test.YthejmnmkbldacaaGreatDoorAp08
import Derived.Test.YthejmnmkbldacaaGreatDoorAp09
set_option linter.all false
namespace Go.Proofs.YthejmnmkbldacaaGreatDoor
open Go.RowKit

/-- three comparisons, of x and y, y and z, x and z, fit together -/
def Tr (a b c : Int) : Prop := (a < 0 → b ≤ 0 → c < 0) ∧ (a ≤ 0 → b < 0 → c < 0) ∧ (a = 0 → b = 0 → c = 0)
theorem Tr.orI {a b c a' b' c' : Int} (h : Tr a b c) (h' : a = 0 → b = 0 → c = 0 → Tr a' b' c') : Tr (orI a a') (orI b b') (orI c c') := by
  unfold Tr at *
  unfold Go.Proofs.YthejmnmkbldacaaGreatDoor.orI
  obtain ⟨h1, h2, h3⟩ := h
  by_cases ha : a = 0
  · by_cases hb : b = 0
    · have hc := h3 ha hb
      rw [if_neg (by simp [ha]), if_neg (by simp [hb]), if_neg (by simp [hc])]
      exact h' ha hb hc
    · by_cases hc : c = 0
      · rw [if_neg (by simp [ha]), if_pos hb, if_neg (by simp [hc])]
        refine ⟨fun _ _ => by omega, fun _ _ => by omega, fun _ _ => by omega⟩
      · rw [if_neg (by simp [ha]), if_pos hb, if_pos hc]
        refine ⟨fun _ _ => by omega, fun _ _ => by omega, fun _ _ => by omega⟩
  · by_cases hb : b = 0
    · by_cases hc : c = 0
      · rw [if_pos ha, if_neg (by simp [hb]), if_neg (by simp [hc])]
        refine ⟨fun _ _ => by omega, fun _ _ => by omega, fun _ _ => by omega⟩
      · rw [if_pos ha, if_neg (by simp [hb]), if_pos hc]
        refine ⟨fun _ _ => by omega, fun _ _ => by omega, fun _ _ => by omega⟩
    · by_cases hc : c = 0
      · rw [if_pos ha, if_pos hb, if_neg (by simp [hc])]
        refine ⟨fun _ _ => by omega, fun _ _ => by omega, fun _ _ => by omega⟩
      · rw [if_pos ha, if_pos hb, if_pos hc]
        exact ⟨h1, h2, h3⟩
theorem orI_anti {a b a' b' : Int} (h : a' = -a) (h' : a = 0 → b' = -b) : orI a' b' = -orI a b := by
  unfold orI
  by_cases ha : a = 0
  · rw [if_neg (by simp [h, ha]), if_neg (by simp [ha])]
    exact h' ha
  · rw [if_pos (by omega), if_pos ha, h]
theorem cmpI_anti (a b : Int) : cmpI b a = -cmpI a b := by
  unfold cmpI
  split <;> split <;> omega
theorem cmpI_tr (x y z : Int) : Tr (cmpI x y) (cmpI y z) (cmpI x z) := by
  unfold Tr cmpI
  split <;> split <;> split <;> (try split) <;> (try split) <;> (try split) <;> omega
theorem cmpI_eq_zero {a b : Int} : cmpI a b = 0 ↔ a = b := ⟨fun h => Decidable.byContradiction fun hne => cmpI_ne hne h, cmpI_eq⟩

theorem cmpBytes_anti : ∀ a b : List UInt8, cmpBytes b a = -cmpBytes a b
  | [], [] => rfl
  | [], _ :: _ => rfl
  | _ :: _, [] => rfl
  | a :: l, b :: r => by
    simp only [cmpBytes]
    by_cases h : a < b
    · have h2 : ¬ b < a := fun h' => absurd (UInt8.lt_trans h h') (UInt8.lt_irrefl _)
      simp [h, h2]
    · by_cases h2 : b < a
      · simp [h, h2]
      · simp [h, h2, cmpBytes_anti l r]
theorem cmpBytes_tr : ∀ a b c : List UInt8, Tr (cmpBytes a b) (cmpBytes b c) (cmpBytes a c)
  | [], [], [] => by unfold Tr; simp [cmpBytes]
  | [], [], _ :: _ => by unfold Tr; simp [cmpBytes]
  | [], _ :: _, [] => by unfold Tr; simp [cmpBytes]
  | [], _ :: _, _ :: _ => by unfold Tr; simp [cmpBytes]
  | _ :: _, [], [] => by unfold Tr; simp [cmpBytes]
  | _ :: _, [], _ :: _ => by unfold Tr; simp [cmpBytes]
  | _ :: _, _ :: _, [] => by unfold Tr; simp [cmpBytes]
  | a :: l, b :: r, c :: t => by
    have ih := cmpBytes_tr l r t
    have e : ∀ (x y : UInt8) (p q : List UInt8), cmpBytes (x :: p) (y :: q) = orI (cmpI x.toNat y.toNat) (cmpBytes p q) := fun x y p q => by
      simp only [cmpBytes]
      by_cases h : x < y
      · rw [if_pos h, cmpI_lt (by have := UInt8.lt_iff_toNat_lt.1 h; omega)]; rfl
      · by_cases h2 : y < x
        · rw [if_neg h, if_pos h2, cmpI_gt (by have := UInt8.lt_iff_toNat_lt.1 h2; omega)]; rfl
        · rw [if_neg h, if_neg h2, cmpI_eq (by
            have h3 : ¬ x.toNat < y.toNat := fun h' => h (UInt8.lt_iff_toNat_lt.2 h')
            have h4 : ¬ y.toNat < x.toNat := fun h' => h2 (UInt8.lt_iff_toNat_lt.2 h')
            omega), orI_neg rfl]
    rw [e, e, e]
    exact (cmpI_tr _ _ _).orI fun _ _ _ => ih

/-- how the kinds compare: null is the greatest -/
def kindC (x y : VD) : Int := if x.k ≠ y.k then (if x.k = 0 then 1 else if y.k = 0 then -1 else cmpI x.k y.k) else 0
/-- scales that are in order come first -/
def scC (x y : VD) : Int := if scaleOk x.sc = scaleOk y.sc then 0 else if scaleOk x.sc then -1 else 1
def numC (x y : VD) : Int := if scaleOk x.sc then cmpI (x.n * 10 ^ (12 - x.sc).toNat) (y.n * 10 ^ (12 - y.sc).toNat) else cmpI x.n y.n
def headC (x y : VD) : Int := if x.k = 3 then orI (scC x y) (numC x y) else cmpI x.n y.n
theorem cmpV_form (x y : VD) : cmpV x y = orI (kindC x y) (if x.k = 0 then 0 else orI (headC x y) (restV x y)) := by
  rw [cmpV_eq]
  by_cases hk : x.k = y.k
  · have e : kindC x y = 0 := by unfold kindC; rw [if_neg (by simp [hk])]
    rw [if_neg (by simp [hk]), orI_neg e]
    by_cases h0 : x.k = 0
    · rw [if_pos h0, if_pos h0]
    · rw [if_neg h0, if_neg h0]
      unfold headC
      by_cases h3 : x.k = 3
      · rw [if_pos h3, if_pos h3]
        unfold scC numC
        cases hx : scaleOk x.sc <;> cases hy : scaleOk y.sc <;> simp [orI]
      · rw [if_neg h3, if_neg h3]
  · rw [if_pos hk]
    by_cases h0 : x.k = 0
    · have e : kindC x y = 1 := by unfold kindC; rw [if_pos hk, if_pos h0]
      rw [if_pos h0, e]; rfl
    · rw [if_neg h0]
      by_cases h1 : y.k = 0
      · have e : kindC x y = -1 := by unfold kindC; rw [if_pos hk, if_neg h0, if_pos h1]
        rw [if_pos h1, e]; rfl
      · have e : kindC x y = cmpI x.k y.k := by unfold kindC; rw [if_pos hk, if_neg h0, if_neg h1]
        rw [if_neg h1, e, orI_pos (cmpI_ne hk)]
theorem kindC_tr (x y z : VD) : Tr (kindC x y) (kindC y z) (kindC x z) := by
  unfold kindC Tr cmpI
  generalize x.k = a
  generalize y.k = b
  generalize z.k = c
  by_cases h1 : a = b <;> by_cases h2 : b = c <;> by_cases h3 : a = 0 <;> by_cases h4 : b = 0 <;> by_cases h5 : c = 0 <;> by_cases h6 : a = c <;> simp [h1, h2, h3, h4, h5, h6] <;> omega
theorem kindC_anti (x y : VD) : kindC y x = -kindC x y := by
  unfold kindC cmpI
  generalize x.k = a
  generalize y.k = b
  by_cases h1 : a = b
  · simp [h1]
  · have h2 : ¬ b = a := fun h => h1 h.symm
    simp only [ne_eq, h1, h2, not_false_eq_true, if_true]
    by_cases h3 : a = 0
    · have h4 : ¬ b = 0 := by omega
      simp [h3, h4]
    · by_cases h4 : b = 0
      · simp [h3, h4]
      · simp only [h3, h4, if_false]
        split <;> split <;> omega
theorem scC_anti (x y : VD) : scC y x = -scC x y := by
  unfold scC
  cases scaleOk x.sc <;> cases scaleOk y.sc <;> simp
theorem scC_tr (x y z : VD) : Tr (scC x y) (scC y z) (scC x z) := by
  unfold scC Tr
  cases scaleOk x.sc <;> cases scaleOk y.sc <;> cases scaleOk z.sc <;> simp
theorem scC_zero {x y : VD} (h : scC x y = 0) : scaleOk x.sc = scaleOk y.sc := by
  unfold scC at h
  cases hx : scaleOk x.sc <;> cases hy : scaleOk y.sc <;> simp [hx, hy] at h ⊢
theorem kindC_zero {x y : VD} (h : kindC x y = 0) : x.k = y.k := by
  unfold kindC at h
  by_cases hk : x.k = y.k
  · exact hk
  · rw [if_pos hk] at h
    by_cases h0 : x.k = 0
    · rw [if_pos h0] at h; omega
    · rw [if_neg h0] at h
      by_cases h1 : y.k = 0
      · rw [if_pos h1] at h; omega
      · rw [if_neg h1] at h; exact absurd h (cmpI_ne hk)
theorem headC_anti (x y : VD) (hk : x.k = y.k) : headC y x = -headC x y := by
  unfold headC
  rw [← hk]
  by_cases h3 : x.k = 3
  · rw [if_pos h3, if_pos h3]
    refine orI_anti (scC_anti x y) fun h => ?_
    unfold numC
    rw [← scC_zero h]
    cases scaleOk x.sc
    · exact cmpI_anti _ _
    · exact cmpI_anti _ _
  · rw [if_neg h3, if_neg h3]
    exact cmpI_anti _ _
theorem headC_tr (x y z : VD) (hk : x.k = y.k) (hk' : y.k = z.k) : Tr (headC x y) (headC y z) (headC x z) := by
  unfold headC
  rw [← hk]
  by_cases h3 : x.k = 3
  · rw [if_pos h3, if_pos h3, if_pos h3]
    refine (scC_tr x y z).orI fun h1 h2 _ => ?_
    unfold numC
    rw [← scC_zero h1]
    cases scaleOk x.sc
    · exact cmpI_tr _ _ _
    · exact cmpI_tr _ _ _
  · rw [if_neg h3, if_neg h3, if_neg h3]
    exact cmpI_tr _ _ _
theorem cmpS_anti (a b : ByteArray) : cmpS b a = -cmpS a b := cmpBytes_anti _ _
theorem cmpS_tr (a b c : ByteArray) : Tr (cmpS a b) (cmpS b c) (cmpS a c) := cmpBytes_tr _ _ _

theorem cmpL_cons (a b : VD) (l r : List VD) : cmpL (a :: l) (b :: r) = orI (cmpV a b) (cmpL l r) := by rw [cmpL]; rfl
theorem cmpL_anti_of : ∀ (l r : List VD), (∀ a ∈ l, ∀ b, cmpV b a = -cmpV a b) → cmpL r l = -cmpL l r
  | [], [], _ => rfl
  | [], _ :: _, _ => rfl
  | _ :: _, [], _ => rfl
  | a :: l, b :: r, h => by
    rw [cmpL_cons, cmpL_cons]
    exact orI_anti (h a List.mem_cons_self b) fun _ => cmpL_anti_of l r fun x hx => h x (List.mem_cons_of_mem _ hx)
theorem cmpL_tr_of : ∀ (l r t : List VD), (∀ a ∈ l, ∀ b c, Tr (cmpV a b) (cmpV b c) (cmpV a c)) → Tr (cmpL l r) (cmpL r t) (cmpL l t)
  | [], [], [], _ => by unfold Tr; simp [cmpL]
  | [], [], _ :: _, _ => by unfold Tr; simp [cmpL]
  | [], _ :: _, [], _ => by unfold Tr; simp [cmpL]
  | [], _ :: _, _ :: _, _ => by unfold Tr; simp [cmpL]
  | _ :: _, [], [], _ => by unfold Tr; simp [cmpL]
  | _ :: _, [], _ :: _, _ => by unfold Tr; simp [cmpL]
  | _ :: _, _ :: _, [], _ => by unfold Tr; simp [cmpL]
  | a :: l, b :: r, c :: t, h => by
    rw [cmpL_cons, cmpL_cons, cmpL_cons]
    exact (h a List.mem_cons_self b c).orI fun _ _ _ => cmpL_tr_of l r t fun x hx => h x (List.mem_cons_of_mem _ hx)
theorem size_item {x a : VD} (h : a ∈ x.items) : SizeOf.sizeOf a < SizeOf.sizeOf x := by
  have := List.sizeOf_lt_of_mem h
  cases x
  simp only [VD.items] at this
  simp
  omega
theorem cmpV_anti (x y : VD) : cmpV y x = -cmpV x y := by
  have H := fun a (h : a ∈ x.items) b => cmpV_anti a b
  rw [cmpV_form, cmpV_form]
  refine orI_anti (kindC_anti x y) fun hk => ?_
  have hk := kindC_zero hk
  rw [← hk]
  by_cases h0 : x.k = 0
  · rw [if_pos h0, if_pos h0]; rfl
  · rw [if_neg h0, if_neg h0]
    refine orI_anti (headC_anti x y hk) fun _ => ?_
    unfold restV
    exact orI_anti (cmpI_anti _ _) fun _ => orI_anti (cmpS_anti _ _) fun _ => cmpL_anti_of _ _ H
termination_by SizeOf.sizeOf x
decreasing_by exact size_item h
theorem cmpV_tr (x y z : VD) : Tr (cmpV x y) (cmpV y z) (cmpV x z) := by
  have H := fun a (h : a ∈ x.items) b c => cmpV_tr a b c
  rw [cmpV_form, cmpV_form, cmpV_form]
  refine (kindC_tr x y z).orI fun h1 h2 _ => ?_
  have hk1 := kindC_zero h1
  have hk2 := kindC_zero h2
  rw [← hk1]
  by_cases h0 : x.k = 0
  · rw [if_pos h0, if_pos h0]
    unfold Tr
    simp [h0]
  · rw [if_neg h0, if_neg h0, if_neg h0]
    refine (headC_tr x y z hk1 hk2).orI fun _ _ _ => ?_
    unfold restV
    exact (cmpI_tr _ _ _).orI fun _ _ _ => (cmpS_tr _ _ _).orI fun _ _ _ => cmpL_tr_of _ _ _ H
termination_by SizeOf.sizeOf x
decreasing_by exact size_item h
theorem cmpL_anti (l r : List VD) : cmpL r l = -cmpL l r := cmpL_anti_of l r fun a _ b => cmpV_anti a b
theorem cmpL_tr (l r t : List VD) : Tr (cmpL l r) (cmpL r t) (cmpL l t) := cmpL_tr_of l r t fun a _ b c => cmpV_tr a b c
theorem cmpL_self (l : List VD) : cmpL l l = 0 := by have := cmpL_anti l l; omega
theorem cmpV_self (x : VD) : cmpV x x = 0 := by have := cmpV_anti x x; omega
end Go.Proofs.YthejmnmkbldacaaGreatDoor

namespace Go.Proofs.YthejmnmkbldacaaGreatDoor
open Go.RowKit
attribute [local go_sem] Tab.Env.ev Tab.Env.get

set_option maxHeartbeats 400000 in
theorem compareRows_any (F F' : Nat → Prop) (v1 v2 : Value) (l1 l2 : List VD) (w : World) (h1 : RI w F v1 l1) (h2 : RI w F' v2 l2) :
    Calls Tryz.prog 106 #[v1, v2] w fun e w' => e = .returned (.int .i64 (cmpL l1 l2)) ∧ Below w.heap.size w w' := by
  have HC := Lib.hid (compareFunc_any F F' v1 v2 l1 l2 w h1 h2 fun x _ y => compareAt x y)
  clear h1 h2
  go_enter Tryz.func106, Tryz.ntmps106
  go_wp2_with (go_at_call 146; refine HC.out.mono ?_; rintro e w' ⟨rfl, hb⟩)
  go_ret
  exact ⟨rfl, by assumption⟩

theorem cmpV_row (l r : List VD) : cmpV (.mk 6 0 0 .empty l) (.mk 6 0 0 .empty r) = cmpL l r := by
  rw [cmpV_form, orI_neg (by unfold kindC; simp [VD.k])]
  have h : headC (.mk 6 0 0 .empty l) (.mk 6 0 0 .empty r) = 0 := by
    unfold headC
    simp [VD.k, VD.n, cmpI]
  rw [if_neg (show ¬ (VD.mk 6 0 0 .empty l).k = 0 by show ¬ (6 : Int) = 0; decide), orI_neg h]
  unfold restV
  simp only [VD.sc, VD.s, VD.items]
  rw [orI_neg (cmpI_eq rfl), orI_neg (by rw [cmpS]; have := cmpBytes_anti ByteArray.empty.data.toList ByteArray.empty.data.toList; omega)]

end Go.Proofs.YthejmnmkbldacaaGreatDoor

namespace Go.Proofs.YthejmnmkbldacaaGreatDoor
open Go.RowKit
attribute [local go_sem] Tab.Env.ev Tab.Env.get

open Tab in
/-- a call of a function value that is known, its operands known -/
theorem Tab.tab_callv {P : Program} {ops : Array Oper} {Q : Exit → Act → World → Prop} {E : World → World → Prop} {C : Array Bool → World → Prop} {w0 : World} {a0 : Act} {G : Env} {o : Oper} {i : Nat} {rest : List Oper} {K : Env → Prop} {f : FuncId} {x : Operand} {xs : Array Operand} {ats : Array TypeId} {d : Tmp} (v : Value) (hd : o.dst = some d)
    (ho : o.op = .call { callee := .value x, args := xs, argTypes := ats }) (hg : guardB ops G a0 o = some true) (hkx : G.isKnown x = true) (hx : G.ev a0 x = .func (.func f) #[] #[])
    (hcf : ∀ (args : Array Value) (w : World), (callFunc f args).run P w = .ok (.enter f args) w) (hk : xs.toList.all G.isKnown = true)
    (hstep : ∀ (listed : Array Bool) (w : World), listed.size = ops.size → Stage ops i listed → C listed w → E w0 w → Calls P f (xs.toList.map (G.ev a0)).toArray w fun e w' => e = .returned v ∧ E w w' ∧ C (listed.setIfInBounds i true) w')
    (h : wpTab P ops Q E C w0 a0 K (i + 1) rest ((d, .is v) :: G)) : wpTab P ops Q E C w0 a0 K i (o :: rest) G := by
  refine tab_ty (.is v) hd (stable_is _) hg (fun listed a w hsz hs hc hw hxs => ?_) h
  obtain ⟨dst, op, type, pos, after, guard⟩ := o
  simp only at ho
  subst ho
  have e0 : a.eval x = .func (.func f) #[] #[] := (ev_of hkx (hxs x (by simp [Op.operands, Call.operands]))).trans hx
  have e1 : xs.map a.eval = (xs.toList.map (G.ev a0)).toArray := by
    have e2 : xs.map a.eval = xs.map (G.ev a0) := Array.map_congr_left fun y hy => ev_of (List.all_eq_true.1 hk y (Array.mem_toList_iff.2 hy)) (hxs y (by simp [Op.operands, Call.operands, hy]))
    rw [e2]
    exact Array.ext' (by simp)
  have e : execOp a.eval { dst, op := .call { callee := .value x, args := xs, argTypes := ats }, type, pos, after, guard } = callFunc f (xs.map a.eval) := by
    show (do let d ← Deferred.ofValue (a.eval x) (xs.map a.eval); invoke d.target d.args : Sem Next) = _
    rw [e0]
    show callFunc f (#[] ++ xs.map a.eval ++ #[]) = _
    simp
  unfold Oper.wp
  rw [e, hcf, e1]
  simp only [Oper.upon_enter]
  refine (hstep listed w hsz hs hc hw).mono ?_
  rintro e' w' ⟨rfl, hE, hC⟩
  exact ⟨v, rfl, rfl, hE, hC⟩

/-- a difference as it lies in memory -/
structure DE where
  rv : Value
  row : List VD
  n : Int
instance : Inhabited DE := ⟨⟨undef, [], 0⟩⟩
def DE.cells (d : DE) : List Value := [d.rv, .int .i64 d.n]
def DE.val (d : DE) : Value := .agg #[d.rv, .int .i64 d.n]
/-- its row reads, and its number is one -/
structure DE.good (w : World) (F : Nat → Prop) (d : DE) : Prop where
  row : RI w F d.rv d.row
  n : I64 d.n
def dcells (l : List DE) : List Value := l.flatMap DE.cells
theorem dcells_cons (d : DE) (l : List DE) : dcells (d :: l) = d.rv :: .int .i64 d.n :: dcells l := rfl
theorem dcells_append (l r : List DE) : dcells (l ++ r) = dcells l ++ dcells r := List.flatMap_append
theorem dcells_length (l : List DE) : (dcells l).length = l.length * 2 := by
  induction l with
  | nil => rfl
  | cons d l ih => rw [dcells_cons]; simp [ih]; omega
theorem dcells_get (l : List DE) (i : Nat) : (dcells l)[i * 2]? = (l[i]?).map DE.rv ∧ (dcells l)[i * 2 + 1]? = (l[i]?).map fun d => .int .i64 d.n := by
  induction l generalizing i with
  | nil => simp [dcells]
  | cons d l ih =>
    cases i with
    | zero => simp [dcells_cons]
    | succ i =>
      rw [dcells_cons, show (i + 1) * 2 = (i * 2) + 1 + 1 by omega]
      simpa using ih i
theorem dcells_set (l : List DE) (i : Nat) (d : DE) : dcells (l.set i d) = ((dcells l).set (i * 2) d.rv).set (i * 2 + 1) (.int .i64 d.n) := by
  induction l generalizing i with
  | nil => simp [dcells]
  | cons e l ih =>
    cases i with
    | zero => simp [dcells_cons]
    | succ i =>
      rw [List.set_cons_succ, dcells_cons, dcells_cons, ih i, show (i + 1) * 2 = (i * 2) + 1 + 1 by omega]
      simp

/-- a row of differences of the call's own, in block g -/
def OwnD (w : World) (g cap : Nat) (l : List DE) : Prop := ∃ tl : List Value, Blk w g 86 (dcells l ++ tl) ∧ l.length ≤ cap ∧ cap ≤ maxLen
end Go.Proofs.YthejmnmkbldacaaGreatDoor

namespace Go.Proofs.YthejmnmkbldacaaGreatDoor
open Go.RowKit

/-- the slice value v holds n elements of k cells each, which are cs; its memory lies in a block of F -/
def SL (w : World) (F : Nat → Prop) (k : Nat) (v : Value) (n : Nat) (cs : List Value) : Prop :=
  cs.length = n * k ∧ ∃ A c, v = .slice A n c ∧ n ≤ c ∧ c ≤ maxLen ∧ (0 < n → ∃ b off, A = some ⟨b, off, none⟩ ∧ F b ∧ b < w.heap.size ∧ ∀ j u, cs[j]? = some u → w.cell? ⟨b, off + j, none⟩ = some u)
section
variable {w w' : World} {F F' : Nat → Prop} {k n : Nat} {v : Value} {cs : List Value}
theorem SL.keep (h : SL w F k v n cs) (hz : w.heap.size ≤ w'.heap.size) (hF : ∀ b, F b → b < w.heap.size → w'.heap[b]? = w.heap[b]? ∧ F' b) : SL w' F' k v n cs :=
  ⟨h.1, let ⟨A, c, h1, h2, h3, h4⟩ := h.2; ⟨A, c, h1, h2, h3, fun hn => let ⟨b, off, e, hb, hlt, hc⟩ := h4 hn
    ⟨b, off, e, (hF b hb hlt).2, Nat.lt_of_lt_of_le hlt hz, fun j u hj => (World.cell?_of_block (w := w) (a := ⟨b, off + j, none⟩) (hF b hb hlt).1).trans (hc j u hj)⟩⟩⟩
theorem SL.ext {M : Nat → Prop} (h : SL w F k v n cs) (hb : Tab.Ext M w w') (hM : ∀ b, F b → ¬ M b) : SL w' F k v n cs := h.keep hb.size fun b hF hlt => ⟨hb.block b hlt (hM b hF), hF⟩
theorem SL.later (h : SL w F k v n cs) (hb : Below w.heap.size w w') : SL w' F k v n cs := h.keep hb.size fun b hF hlt => ⟨hb.block b hlt, hF⟩
theorem SL.mono (h : SL w F k v n cs) (hF : ∀ b, F b → b < w.heap.size → F' b) : SL w F' k v n cs := h.keep (Nat.le_refl _) fun b hb hlt => ⟨rfl, hF b hb hlt⟩
theorem SL.nil (w : World) (F : Nat → Prop) (k : Nat) : SL w F k (.slice none 0 0) 0 [] := ⟨by simp, none, 0, rfl, Nat.le_refl _, Nat.zero_le _, fun h => absurd h (Nat.lt_irrefl 0)⟩
theorem SL.of_own {base : Nat} {e : TypeId} (h : w.ownsRow base e k v n cs) : SL w (fun b => base ≤ b) k v n cs := by
  refine ⟨h.1, ?_⟩
  rcases h.2 with ⟨rfl, hn⟩ | ⟨g, cap, cur, rfl, hg, hblk, hle, hm, hsz, htk⟩
  · subst hn
    exact ⟨none, 0, rfl, Nat.le_refl _, Nat.zero_le _, fun h => absurd h (Nat.lt_irrefl 0)⟩
  · refine ⟨_, cap, rfl, hle, hm, fun hn => ⟨g, 0, rfl, hg, lt_of_block hblk, fun j u hj => ?_⟩⟩
    rw [cell_of_row w g (0 + j) cur e (0, 0) hblk, Nat.zero_add]
    have h1 : (cur.toList.take (n * k))[j]? = some u := by rw [htk]; exact hj
    rw [List.getElem?_take] at h1
    split at h1
    · simpa using h1
    · cases h1
/-- the cells of element i -/
theorem SL.at_ (h : SL w F k v n cs) {i : Nat} (hi : i < n) : ∃ b off c, v = .slice (some ⟨b, off, none⟩) n c ∧ n ≤ c ∧ c ≤ maxLen ∧ F b ∧ b < w.heap.size ∧ ∀ j, j < k → ∃ u, cs[i * k + j]? = some u ∧ w.cell? ⟨b, off + i * k + j, none⟩ = some u := by
  obtain ⟨hl, A, c, rfl, h2, h3, h4⟩ := h
  obtain ⟨b, off, rfl, hb, hlt, hc⟩ := h4 (by omega)
  refine ⟨b, off, c, rfl, h2, h3, hb, hlt, fun j hj => ?_⟩
  have h5 : i * k + j < cs.length := by
    rw [hl]
    have := Nat.mul_le_mul_right k (show i + 1 ≤ n by omega)
    rw [Nat.succ_mul] at this
    omega
  exact ⟨cs[i * k + j], List.getElem?_eq_getElem h5, by rw [Nat.add_assoc]; exact hc _ _ (List.getElem?_eq_getElem h5)⟩
end

theorem run_append_none {P : Program} {w : World} {base e size : Nat} (t ty : TypeId) (i : TypeInfo) (ht : P.underlying t = some (.slice e)) (hi : P.info? e = some i)
    (v : Value) (n c : Nat) (xs : List Value) (hown : w.ownsRow base e size v n xs) :
    (Builtin.append_ #[t, t] ty #[v, .slice none 0 c]).run P w = .ok v w := by
  rcases hown.2 with ⟨rfl, rfl⟩ | ⟨g, cap, cur, rfl, _, _, hnc, _⟩
  · simp [Builtin.append_, run_underlying ht, sizeOf, typeInfo, hi, Builtin.lenOf, Builtin.firstCells]
  · simp [Builtin.append_, run_underlying ht, sizeOf, typeInfo, hi, Builtin.lenOf, Builtin.firstCells, hnc, storeCells]

/-- append of a slice that reads -/
theorem append_sl {P : Program} (w : World) {ops : Array Oper} {rest : List Oper} {o : Oper} {a : Act} {Q : Exit → Act → World → Prop} (hgd : o.guard = none) (s x : Operand) (t : TypeId)
    (ho : o.op = .call { callee := .builtin .append, args := #[s, x], argTypes := #[t, t] }) (base : Nat) (e : TypeId) {z : Value} {size bytes : Nat} (ht : P.underlying t = some (.slice e))
    (hinfo : (P.info? e).map (fun i => (i.zero, i.size, i.bytes)) = some (some z, size, bytes)) (hzs : z.cells.size = size) (hsz : 0 < size) (v : Value) (n : Nat) (xs us : List Value) (hs : a.eval s = v) (hown : w.ownsRow base e size v n xs)
    (F : Nat → Prop) (vx : Value) (m : Nat) (hx : a.eval x = vx) (hsl : SL w F size vx m us) (h1 : ∀ u ∈ us, u.oneCell' = true) (hn : n + m < 1073741824) (hby : bytes ≤ 65536) (hbase : base ≤ w.heap.size)
    (h : ∀ v' w', w'.ownsRow base e size v' (n + m) (xs ++ us) → Below base w w' → wpList P ops Q rest (a.put o.dst v') w') : wpList P ops Q (o :: rest) a w := by
  obtain ⟨hl, A, c, rfl, hc1, hc2, hc⟩ := hsl
  rcases Nat.eq_zero_or_pos m with h0 | hm
  · subst h0
    have e0 : us = [] := List.eq_nil_of_length_eq_zero (by simpa using hl)
    subst e0
    cases A with
    | none =>
      obtain ⟨i, hi, _⟩ := info_parts hinfo
      refine wpList_plain hgd fun K hK => ?_
      have hr := run_append_none (P := P) t o.type i ht hi v n c xs hown
      unfold Oper.wp
      simp [execOp, ho, resolve, invoke, builtin, hs, hx, hr, Result.andThen]
      have := h v w (by simpa using hown) (Below.refl _ _)
      exact hK _ _ this
    | some ad =>
      obtain ⟨i, hi, hz, hsize, hbytes⟩ := info_parts hinfo
      refine wpList_append_own _ hgd s x t ho base e i z size bytes ht hi hz hsize hbytes hzs hsz v n xs hs hown ad 0 c [] hx (by simp) (fun j u hj => by simp at hj) h1 (by unfold maxLen; omega) ?_ hbase ?_
      · have := Nat.mul_le_mul (show n + 0 ≤ 1073741824 by omega) hby
        omega
      · intro v' w' ho' hg _
        exact h v' w' ho' (below_grown hown hg hbase)
  · obtain ⟨b, off, rfl, _, _, hcell⟩ := hc hm
    exact append_from w hgd s x t ho base e ht hinfo hzs hsz v n xs us hs hown b off m c hx hl hcell h1 hn hby hbase h

/-- the capacity that Clip leaves -/
def clipCap (A : Option Addr) (n : Nat) : Nat := if A.isNone then 0 else n
theorem RI.clip {w : World} {F : Nat → Prop} {A : Option Addr} {l : List VD} {c : Nat} (h : RI w F (.slice A l.length c) l) : RI w F (.slice A l.length (clipCap A l.length)) l := by
  obtain ⟨A', c', iA, iC, hv, hc, hm, hs, hw, hr⟩ := h.shape
  injection hv with e1 _ e2
  subst e1
  subst e2
  refine .mk A _ l iA iC ?_ ?_ hs hw hr
  · unfold clipCap
    cases A with
    | none =>
      rcases Nat.eq_zero_or_pos l.length with h0 | h0
      · rw [h0]; exact Nat.zero_le _
      · obtain ⟨_, _, e, _⟩ := hs h0
        cases e
    | some a => exact Nat.le_refl _
  · unfold clipCap
    cases A with
    | none => exact Nat.zero_le _
    | some a => exact Nat.le_trans hc hm
theorem SL.clip {w : World} {F : Nat → Prop} {k n c : Nat} {A : Option Addr} {cs : List Value} (h : SL w F k (.slice A n c) n cs) : SL w F k (.slice A n (clipCap A n)) n cs := by
  obtain ⟨hl, A', c', hv, h1, h2, h3⟩ := h
  injection hv with e1 _ e2
  subst e1
  subst e2
  refine ⟨hl, A, _, rfl, ?_, ?_, h3⟩
  · unfold clipCap
    cases A with
    | none =>
      rcases Nat.eq_zero_or_pos n with h0 | h0
      · rw [h0]; exact Nat.zero_le _
      · obtain ⟨_, _, e, _⟩ := h3 h0
        cases e
    | some a => exact Nat.le_refl _
  · unfold clipCap
    cases A with
    | none => exact Nat.zero_le _
    | some a => exact Nat.le_trans h1 h2
theorem SL.none_zero {w : World} {F : Nat → Prop} {k n c : Nat} {A : Option Addr} {cs : List Value} (h : SL w F k (.slice A n c) n cs) : A = none → n = 0 := fun h0 => by
  obtain ⟨hl, A', c', hv, h1, h2, h3⟩ := h
  injection hv with e1 _ e2
  subst e1
  rcases Nat.eq_zero_or_pos n with h | h
  · exact h
  · obtain ⟨b, off, e, _⟩ := h3 h
    rw [h0] at e; cases e
/-- a slice that reads as a list of differences; its own memory in F, its rows' in F' -/
structure RD (w : World) (F F' : Nat → Prop) (v : Value) (l : List DE) : Prop where
  sl : SL w F 2 v l.length (dcells l)
  good : ∀ d, d ∈ l → d.good w F'
section
variable {w w' : World} {F F' F2 F2' : Nat → Prop} {v : Value} {l : List DE}
theorem RD.ext {M : Nat → Prop} (h : RD w F F' v l) (hb : Tab.Ext M w w') (hM : ∀ b, F b → ¬ M b) (hM' : ∀ b, F' b → ¬ M b) : RD w' F F' v l := ⟨h.sl.ext hb hM, fun d hd => ⟨(h.good d hd).row.ext hb hM', (h.good d hd).n⟩⟩
theorem RD.later (h : RD w F F' v l) (hb : Below w.heap.size w w') : RD w' F F' v l := ⟨h.sl.later hb, fun d hd => ⟨(h.good d hd).row.later hb, (h.good d hd).n⟩⟩
theorem RD.mono (h : RD w F F' v l) (h1 : ∀ b, F b → b < w.heap.size → F2 b) (h2 : ∀ b, F' b → b < w.heap.size → F2' b) : RD w F2 F2' v l := ⟨h.sl.mono h1, fun d hd => ⟨(h.good d hd).row.mono h2, (h.good d hd).n⟩⟩
theorem RD.nil (w : World) (F F' : Nat → Prop) : RD w F F' (.slice none 0 0) [] := ⟨SL.nil w F 2, fun _ h => by cases h⟩
/-- what lies at i -/
theorem RD.at_ (h : RD w F F' v l) {i : Nat} (hi : i < l.length) : ∃ (b off c : Nat) (A : Option Addr) (m c' : Nat) (row : List VD) (k : Int), v = .slice (some ⟨b, off, none⟩) l.length c ∧ l.length ≤ c ∧ c ≤ maxLen ∧ b < w.heap.size ∧ dat l i = ⟨.slice A m c', row, k⟩ ∧ (DE.mk (.slice A m c') row k).good w F' ∧
    w.cell? ⟨b, off + i * 2, none⟩ = some (.slice A m c') ∧ w.cell? ⟨b, off + i * 2 + 1, none⟩ = some (.int .i64 k) := by
  obtain ⟨b, off, c, hv, h1, h2, _, hlt, hc⟩ := h.sl.at_ hi
  have hg := h.good (dat l i) (dat_mem hi)
  have hd := dcells_get l i
  rw [dat_some hi] at hd
  obtain ⟨u0, e0, c0⟩ := hc 0 (by omega)
  obtain ⟨u1, e1, c1⟩ := hc 1 (by omega)
  rw [Nat.add_zero, hd.1] at e0
  rw [hd.2] at e1
  simp only [Option.map_some, Option.some.injEq] at e0 e1
  subst e0
  subst e1
  generalize dat l i = d at hg c0 c1
  obtain ⟨rv, row, k⟩ := d
  obtain ⟨A, c', _, _, e, _⟩ := hg.row.shape
  simp only at e c0 c1
  subst e
  exact ⟨b, off, c, A, _, c', row, k, hv, h1, h2, hlt, rfl, hg, c0, c1⟩
end
theorem dcells_one {w : World} {F : Nat → Prop} {l : List DE} (h : ∀ d, d ∈ l → d.good w F) : ∀ u ∈ dcells l, u.oneCell' = true := by
  intro u hu
  obtain ⟨d, hd, h1⟩ := List.mem_flatMap.1 hu
  obtain ⟨A, c, _, _, e, _⟩ := (h d hd).row.shape
  unfold DE.cells at h1
  rw [e] at h1
  rcases List.mem_cons.1 h1 with rfl | h1
  · rfl
  · rw [List.mem_singleton.1 h1]; rfl

theorem infoD : (Tryz.prog.info? 86).map (fun i => (i.zero, i.size, i.bytes)) = some (some (.agg #[.slice none 0 0, .int .i64 0]), 2, 32) := by kernel_rfl
theorem underD : Tryz.prog.underlying 23 = some (.slice 86) := by kernel_rfl
theorem infoV : (Tryz.prog.info? 33).map (fun i => (i.zero, i.size, i.bytes)) = some (some (.agg #[.int .i64 0, .int .i64 0, .int .i64 0, .string .empty, .slice none 0 0]), 5, 64) := by kernel_rfl
theorem underV : Tryz.prog.underlying 31 = some (.slice 33) := by kernel_rfl
theorem infoR : (Tryz.prog.info? 31).map (fun i => (i.zero, i.size, i.bytes)) = some (some (.slice none 0 0), 1, 24) := by kernel_rfl
theorem underR : Tryz.prog.underlying 22 = some (.slice 31) := by kernel_rfl
end Go.Proofs.YthejmnmkbldacaaGreatDoor

namespace Go.Proofs.YthejmnmkbldacaaGreatDoor
open Go.RowKit
attribute [local go_sem] Tab.Env.ev Tab.Env.get

set_option maxHeartbeats 400000 in
theorem cloneD_any (F : Nat → Prop) (v : Value) (n : Nat) (cs : List Value) (w : World) (hsl : SL w F 2 v n cs) (h1 : ∀ u ∈ cs, u.oneCell' = true) (hn : n < 1073741824) :
    Calls Tryz.prog 111 #[v] w fun e w' => ∃ v', e = .returned v' ∧ w'.ownsRow w.heap.size 86 2 v' n cs ∧ Below w.heap.size w w' := by
  have HSL := Lib.hid hsl
  have HONE := Lib.hid h1
  obtain ⟨hl, A, c, rfl, hc1, hc2, hc⟩ := hsl
  have HL := Lib.hid hl
  clear hl hc h1
  have heq := fun (w : World) => Lib.run_eql_slice_nil (P := Tryz.prog) w 23 86 A n c 0 0 underD
  cases A with
  | none =>
    have HN := Lib.hid (show n = 0 ∨ 0 < n by omega)
    go_enter Tryz.func111, Tryz.ntmps111
    go_wp2_with fail
    go_ret
    rcases HN.out with h0 | h0
    · subst h0
      have e0 : cs = [] := List.eq_nil_of_length_eq_zero (by simpa using HL.out)
      subst e0
      exact ⟨_, rfl, World.ownsRow_nil _ _ _ _, Below.refl _ _⟩
    · obtain ⟨_, A, c', hv, _, _, h⟩ := HSL.out
      obtain ⟨b, off, e, _⟩ := h h0
      injection hv with hv
      rw [e] at hv
      cases hv
  | some ad =>
    have HO := Lib.hid (World.ownsRow_lit (base := w.heap.size) (e := 86) (size := 2) w #[] 0 (Nat.le_refl _) (Nat.zero_le _) (by rfl))
    go_enter Tryz.func111, Tryz.ntmps111
    go_wp2_with (at_builtin; refine append_sl _ rfl (.tmp 5) (.tmp 6) 23 rfl w.heap.size 86 underD infoD rfl (by decide) _ 0 [] cs rfl HO.out F _ n rfl (HSL.out.later (below_new w _)) HONE.out (by omega) (by decide) (by simp) ?_)
    intro v' w1 hown' hb1
    have HO' := Lib.hid hown'
    clear hown'
    go_wp2_with fail
    go_ret
    exact ⟨_, rfl, HO'.out, (below_new w _).trans hb1⟩

set_option maxHeartbeats 400000 in
theorem clipD_any (A : Option Addr) (n c : Nat) (hA : A = none → n = 0) (hn : n ≤ c) (hm : c ≤ maxLen) (w : World) :
    Calls Tryz.prog 76 #[.slice A n c] w fun e w' => e = .returned (.slice A n (clipCap A n)) ∧ w = w' := by
  unfold maxLen at hm
  cases A with
  | none =>
    obtain rfl := hA rfl
    go_enter Tryz.func76, Tryz.ntmps76
    go_wp2_with fail
    go_ret
    exact ⟨rfl, rfl⟩
  | some a =>
    go_enter Tryz.func76, Tryz.ntmps76
    go_wp2_with fail
    go_ret
    exact ⟨rfl, rfl⟩

set_option maxHeartbeats 400000 in
theorem clipV_any (A : Option Addr) (n c : Nat) (hA : A = none → n = 0) (hn : n ≤ c) (hm : c ≤ maxLen) (w : World) :
    Calls Tryz.prog 87 #[.slice A n c] w fun e w' => e = .returned (.slice A n (clipCap A n)) ∧ w = w' := by
  unfold maxLen at hm
  cases A with
  | none =>
    obtain rfl := hA rfl
    go_enter Tryz.func87, Tryz.ntmps87
    go_wp2_with fail
    go_ret
    exact ⟨rfl, rfl⟩
  | some a =>
    go_enter Tryz.func87, Tryz.ntmps87
    go_wp2_with fail
    go_ret
    exact ⟨rfl, rfl⟩

set_option maxHeartbeats 400000 in
theorem clipR_any (A : Option Addr) (n c : Nat) (hA : A = none → n = 0) (hn : n ≤ c) (hm : c ≤ maxLen) (w : World) :
    Calls Tryz.prog 74 #[.slice A n c] w fun e w' => e = .returned (.slice A n (clipCap A n)) ∧ w = w' := by
  unfold maxLen at hm
  cases A with
  | none =>
    obtain rfl := hA rfl
    go_enter Tryz.func74, Tryz.ntmps74
    go_wp2_with fail
    go_ret
    exact ⟨rfl, rfl⟩
  | some a =>
    go_enter Tryz.func74, Tryz.ntmps74
    go_wp2_with fail
    go_ret
    exact ⟨rfl, rfl⟩
end Go.Proofs.YthejmnmkbldacaaGreatDoor
