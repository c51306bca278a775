/-
  What is proved: sums and differences of wide numbers of whatever sign; their order; a number times a power of ten. Conditions: sizes below 2^256.
  What is proved: what package value's Compare computes. Conditions: none.
-/
import Derived.Test.YthejmnmkbldacaaGreatDoorAp05
import Derived.Test.YthejmnmkbldacaaGreatDoorAp02
set_option linter.all false
namespace Go.Proofs.YthejmnmkbldacaaGreatDoor
open Go.RowKit
attribute [local go_sem] Tab.Env.ev Tab.Env.get

set_option maxHeartbeats 1000000 in
set_option maxRecDepth 100000 in
theorem cfplus : ∀ (args : Array Value) (w : World), (callFunc 210 args).run Tryz.prog w = .ok (.enter 210 args) w := fun _ _ => by simp [go_sem]
set_option maxHeartbeats 1000000 in
set_option maxRecDepth 100000 in
theorem minus_other (neg : Bool) (v v' : Value) (m m' : Int) (hv : IsWide v neg m) (hv' : IsWide v' (!neg) m') (hm : m + m' < 115792089237316195423570985008687907853269984665640564039457584007913129639936) (w : World) :
    Calls Tryz.prog 217 #[v, v'] w fun e w' => ∃ r, e = .returned r ∧ IsWide r neg (m + m') ∧ Below w.heap.size w w' := by
  have HV := Lib.hid hv
  have HV' := Lib.hid hv'
  obtain ⟨a, b, c, d, rfl, _, _, _, _, _⟩ := hv
  obtain ⟨a', b', c', d', rfl, _, _, _, _, _⟩ := hv'
  have hne : (neg != !neg) = true := by cases neg <;> rfl
  unfold wcells
  go_enter Tryz.func217, Tryz.ntmps217
  go_wp2_with fail
  generalize hW : ((w.alloc (.cells #[.bool neg, .int .u64 a, .int .u64 b, .int .u64 c, .int .u64 d] 214)).alloc (.cells #[.bool (!neg), .int .u64 a', .int .u64 b', .int .u64 c', .int .u64 d'] 214)).alloc (.cells #[.bool false, .int .u64 0, .int .u64 0, .int .u64 0, .int .u64 0] 214) = W
  have B0 : WBox W w.heap.size neg a b c d := hW ▸ ((Blk.new w _ _).alloc _).alloc _
  have B1 : WBox W (w.heap.size + 1) (!neg) a' b' c' d' := by
    have h := (Blk.new (w.alloc (.cells #[.bool neg, .int .u64 a, .int .u64 b, .int .u64 c, .int .u64 d] 214)) 214 [.bool (!neg), .int .u64 a', .int .u64 b', .int .u64 c', .int .u64 d']).alloc (.cells #[.bool false, .int .u64 0, .int .u64 0, .int .u64 0, .int .u64 0] 214)
    rw [← hW]
    simpa using h
  have B2 : WBox W (w.heap.size + 1 + 1) false 0 0 0 0 := by
    have h := Blk.new ((w.alloc (.cells #[.bool neg, .int .u64 a, .int .u64 b, .int .u64 c, .int .u64 d] 214)).alloc (.cells #[.bool (!neg), .int .u64 a', .int .u64 b', .int .u64 c', .int .u64 d'] 214)) 214 [.bool false, .int .u64 0, .int .u64 0, .int .u64 0, .int .u64 0]
    rw [← hW]
    simpa using h
  have hbel : Below w.heap.size w W := hW ▸ ((below_new w _).alloc (by simp) _).alloc (by simp; omega) _
  clear hW
  have q0 := fun w' (h : Tab.Ext (fun _ => False) W.drew w') => wcell5 (B0.drew.ext h id)
  have q1 := fun w' (h : Tab.Ext (fun _ => False) W.drew w') => wcell5 (B1.drew.ext h id)
  refine Tab.wp_region_tab_tail 4 (Tab.Ext fun _ => False) (by kernel_rfl) (by kernel_rfl) (by kernel_rfl) (fun _ => Tab.Ext.refl _ _) (fun _ _ _ h k => h.trans k) ?_
  iterate 2 (first | (refine Tab.tab_moveE _ rfl (Tab.silent_true _) (.inl rfl) rfl rfl (fun _ => Tab.Ext.refl _ _) ?_; apply Exists.intro; refine And.intro ?_ ?_; focus (simp [Tab.Env.ev, Tab.Env.get]; rfl)) | (refine Tab.tab_moveE _ rfl (Tab.silent_true _) (.inr rfl) rfl rfl (fun _ => Tab.Ext.refl _ _) ?_; apply Exists.intro; refine And.intro ?_ ?_; focus (simp [Tab.Env.ev, Tab.Env.get]; rfl)) | refine Tab.tab_skip rfl (Tab.silent_true _) rfl ?_ | (refine Tab.tab_repE rfl (Tab.silent_true _) rfl (fun _ _ h => by cases h) rfl (fun _ => Tab.Ext.refl _ _) ?_; apply Exists.intro; refine And.intro (fun l w' _ _ hw => ?_) ?_; focus (go_simp; rfl)) | (refine Tab.tab_repE rfl (Tab.silent_true _) rfl (fun _ _ h => by cases h) rfl (fun _ => Tab.Ext.refl _ _) ?_; apply Exists.intro; refine And.intro (fun l w' hs hc hw => ?_) ?_; focus (go_simp; rfl)))
  refine Tab.tab_callk (.ty fun v _ => IsWide v neg m') rfl (Tab.stable_pure _ _) rfl rfl cfnegated rfl (fun l w' _ _ _ hw => ?_) ?_
  · simp only [List.map_cons, List.map_nil, Tab.Env.ev, Tab.Env.get, if_true]
    refine (negated_any _ (!neg) m' HV'.out _).mono ?_
    rintro e w2 ⟨v, rfl, hv, hb⟩
    rw [Bool.not_not] at hv
    exact ⟨v, rfl, hv, Tab.Ext.of_below hb, trivial⟩
  refine Tab.tab_call (.ty fun v _ => IsWide v neg (m + m')) rfl (Tab.stable_pure _ _) rfl rfl cfplus (fun l ρ w' _ _ _ hw hx => ?_) ?_
  · have e1 := hx (.tmp 12) (by simp)
    simp only [Tab.Env.tyd, Tab.Env.knows, Tab.Env.get, Nat.reduceEqDiff, if_true, if_false, Tab.Ty.holds] at e1
    have e2 := hx (.tmp 14) (by simp)
    simp only [Tab.Env.tyd, Tab.Env.knows, Tab.Env.get, Nat.reduceEqDiff, if_true, if_false, Tab.Ty.holds] at e2
    simp only [List.map_toArray, List.map_cons, List.map_nil]
    rw [e1]
    refine (plus_same neg _ _ m m' HV.out e2 hm w').mono ?_
    rintro e w2 ⟨v, rfl, hv, hb⟩
    exact ⟨v, rfl, hv, Tab.Ext.of_below hb, trivial⟩
  intro a_ w_ hw_ hsat_
  refine Tab.fin_of_sat rfl ?_ hsat_
  simp only [Tab.fin, Act.put, List.setIfInBounds_toArray, List.set_cons_succ, List.set_cons_zero, List.drop_succ_cons, List.drop_zero]
  rintro v14 _ v ⟨a2, b2, c2, d2, rfl, ha2, hb2, hc2, hd2, hm2⟩
  have HM2 := Lib.hid hm2
  clear hm2 q0 q1
  have B2' : WBox w_ (w.heap.size + 1 + 1) false 0 0 0 0 := B2.drew.ext hw_ id
  have hbel' : Below w.heap.size w w_ := hbel.drew.trans (hw_.below.mono hbel.size)
  clear hsat_ hw_ B0 B1 B2 hbel
  have q2 := wcell5 B2'
  have f2 := B2'.frozen
  unfold wcells
  go_wp2_with fail
  have hfin := wcell5 (B2'.set5 (.bool neg) (.int .u64 a2) (.int .u64 b2) (.int .u64 c2) (.int .u64 d2))
  exact bodyPost_ret (v := .agg (wcells neg a2 b2 c2 d2)) (by simp [results, Tryz.results217, go_sem, wcells, hfin]) rfl ⟨_, rfl, ⟨_, _, _, _, rfl, ha2, hb2, hc2, hd2, HM2.out⟩, below_set5 hbel' (by omega) _ _ _ _ _⟩

/-- what the difference tells of the order -/
def DiffOK (ns : Bool) (md s s' : Int) : Prop := (md = 0 ∧ s = s') ∨ (md ≠ 0 ∧ ns = true ∧ s < s') ∨ (md ≠ 0 ∧ ns = false ∧ s' < s)
/-- a wide number with its sign -/
def signed (neg : Bool) (m : Int) : Int := if neg then -m else m
theorem isWide_nonneg {v : Value} {neg : Bool} {m : Int} (h : IsWide v neg m) : 0 ≤ m := by
  obtain ⟨a, b, c, d, _, ha, hb, hc, hd, rfl⟩ := h
  exact wnum_nonneg ha hb hc hd
theorem minus_any (v v' : Value) (neg neg' : Bool) (m m' : Int) (hv : IsWide v neg m) (hv' : IsWide v' neg' m') (hm : m + m' < 115792089237316195423570985008687907853269984665640564039457584007913129639936) (w : World) :
    Calls Tryz.prog 217 #[v, v'] w fun e w' => ∃ r ns md, e = .returned r ∧ IsWide r ns md ∧ DiffOK ns md (signed neg m) (signed neg' m') ∧ Below w.heap.size w w' := by
  have h0 := isWide_nonneg hv
  have h0' := isWide_nonneg hv'
  by_cases hn : neg = neg'
  · subst hn
    refine (minus_same neg v v' m m' hv hv' w).mono ?_
    rintro e w1 ⟨r, he, hr, hb⟩
    refine ⟨r, _, _, he, hr, ?_, hb⟩
    unfold DiffOK signed
    cases neg
    · rcases Int.lt_or_le m m' with h | h
      · rw [if_pos h, if_pos h]; exact .inr (.inl ⟨by omega, rfl, by simp; omega⟩)
      · rw [if_neg (show ¬ m < m' by omega), if_neg (show ¬ m < m' by omega)]
        by_cases e : m = m'
        · exact .inl ⟨by omega, by simp; omega⟩
        · exact .inr (.inr ⟨by omega, rfl, by simp; omega⟩)
    · rcases Int.lt_or_le m m' with h | h
      · rw [if_pos h, if_pos h]; exact .inr (.inr ⟨by omega, rfl, by simp; omega⟩)
      · rw [if_neg (show ¬ m < m' by omega), if_neg (show ¬ m < m' by omega)]
        by_cases e : m = m'
        · exact .inl ⟨by omega, by simp; omega⟩
        · exact .inr (.inl ⟨by omega, rfl, by simp; omega⟩)
  · obtain rfl : neg' = !neg := by cases neg <;> cases neg' <;> simp_all
    refine (minus_other neg v v' m m' hv hv' hm w).mono ?_
    rintro e w1 ⟨r, he, hr, hb⟩
    refine ⟨r, _, _, he, hr, ?_, hb⟩
    unfold DiffOK signed
    by_cases e : m + m' = 0
    · exact .inl ⟨e, by cases neg <;> simp <;> omega⟩
    · cases neg
      · exact .inr (.inr ⟨e, rfl, by simp; omega⟩)
      · exact .inr (.inl ⟨e, rfl, by simp; omega⟩)

set_option maxHeartbeats 1000000 in
theorem compare_any (v v' : Value) (neg neg' : Bool) (m m' : Int) (hv : IsWide v neg m) (hv' : IsWide v' neg' m') (hm : m + m' < 115792089237316195423570985008687907853269984665640564039457584007913129639936) (w : World) :
    Calls Tryz.prog 185 #[v, v'] w fun e w' => e = .returned (.int .i64 (cmpI (signed neg m) (signed neg' m'))) ∧ Below w.heap.size w w' := by
  have HV := Lib.hid hv
  have HV' := Lib.hid hv'
  obtain ⟨a, b, c, d, rfl, _, _, _, _, _⟩ := hv
  obtain ⟨a', b', c', d', rfl, _, _, _, _, _⟩ := hv'
  unfold wcells
  go_enter Tryz.func185, Tryz.ntmps185
  go_wp2_with fail
  refine (minus_any _ _ neg neg' m m' HV.out HV'.out hm _).mono ?_
  rintro e w1 ⟨v1, ns, md, rfl, hv1, hd, hb1⟩
  have HV1 := Lib.hid hv1
  obtain ⟨a1, b1, c1, d1, rfl, _, _, _, _, _⟩ := hv1
  have hbel : Below w.heap.size w (w1.alloc (.cells #[.bool ns, .int .u64 a1, .int .u64 b1, .int .u64 c1, .int .u64 d1] 214)) := (((below_new w _).alloc (by simp) _).trans (hb1.mono (by simp; omega))).alloc (by have := hb1.size; simp at this; omega) _
  have B1 : WBox (w1.alloc (.cells #[.bool ns, .int .u64 a1, .int .u64 b1, .int .u64 c1, .int .u64 d1] 214)) w1.heap.size ns a1 b1 c1 d1 := Blk.new _ _ _
  clear hb1
  unfold wcells
  go_wp2_with fail
  refine (zero_any _ ns md HV1.out _).mono ?_
  rintro e w2 ⟨rfl, hb2⟩
  have B2 := wcell5 (B1.below hb2 B1.lt)
  have hbel2 := hbel.trans (hb2.mono hbel.size)
  clear hb2 hbel B1
  rcases hd with ⟨h0, hs⟩ | ⟨h0, rfl, hs⟩ | ⟨h0, rfl, hs⟩
  · rw [decide_eq_true h0]
    clear h0
    have HS := Lib.hid hs
    clear hs
    go_wp2_with fail
    go_ret
    exact ⟨ret_int (cmpI_eq HS.out).symm, hbel2⟩
  · rw [decide_eq_false h0]
    clear h0
    go_wp2_with fail
    go_ret
    exact ⟨ret_int (cmpI_lt hs).symm, hbel2⟩
  · rw [decide_eq_false h0]
    clear h0
    go_wp2_with fail
    go_ret
    exact ⟨ret_int (cmpI_gt hs).symm, hbel2⟩

set_option maxHeartbeats 1000000 in
theorem scaled_any (n : Int) (h : -9223372036854775808 ≤ n ∧ n ≤ 9223372036854775807) (d : Nat) (hd : d ≤ 12) (w : World) :
    Calls Tryz.prog 170 #[.int .i64 n, .int .i64 d] w fun e w' => ∃ r, e = .returned r ∧ IsWide r (decide (n < 0)) (n.natAbs * 10 ^ d) ∧ Below w.heap.size w w' := by
  have h10 : (n.natAbs : Int) * 10 ^ d < 115792089237316195423570985008687907853269984665640564039457584007913129639936 := by
    have h1 : (10 : Int) ^ d ≤ 10 ^ 12 := by exact_mod_cast Nat.pow_le_pow_right (by omega) hd
    have := Int.mul_le_mul (show (n.natAbs : Int) ≤ 9223372036854775808 by omega) h1 (by exact_mod_cast Nat.zero_le _) (by omega)
    omega
  have H10 := Lib.hid h10
  clear h10
  go_enter Tryz.func170, Tryz.ntmps170
  go_wp2_with fail
  refine (whole_any n h _).mono ?_
  rintro e w1 ⟨v1, rfl, hv1, hb1⟩
  go_wp2_with fail
  refine (shifted_any _ v1 _ d hv1 hd _ H10.out).mono ?_
  rintro e w2 ⟨v2, rfl, hv2, hb2⟩
  have B : WBox w2 w.heap.size false 0 0 0 0 := ((Blk.new w 214 _).below hb1 (by simp)).below hb2 (by have := hb1.size; simp at this; omega)
  have hbel : Below w.heap.size w w2 := ((below_new w _).trans (hb1.mono (by simp))).trans (hb2.mono (by have := hb1.size; simp at this; omega))
  have q := wcell5 B
  have f := B.frozen
  obtain ⟨a2, b2, c2, d2, rfl, ha2, hb2', hc2, hd2, hm2⟩ := hv2
  have HM2 := Lib.hid hm2
  clear hm2 hv1 hb1 hb2
  unfold wcells
  go_wp2_with fail
  have hfin := wcell5 (B.set5 (.bool (decide (n < 0))) (.int .u64 a2) (.int .u64 b2) (.int .u64 c2) (.int .u64 d2))
  exact bodyPost_ret (v := .agg (wcells (decide (n < 0)) a2 b2 c2 d2)) (by simp [results, Tryz.results170, go_sem, wcells, hfin]) rfl ⟨_, rfl, ⟨_, _, _, _, rfl, ha2, hb2', hc2, hd2, HM2.out⟩, below_set5 hbel (Nat.le_refl _) _ _ _ _ _⟩
end Go.Proofs.YthejmnmkbldacaaGreatDoor

namespace Go.Proofs.YthejmnmkbldacaaGreatDoor
open Go.RowKit
attribute [local go_sem] Tab.Env.ev Tab.Env.get

/-- Compare's contract at two values -/
def CompareAt (x y : VD) : Prop := ∀ (F F' : Nat → Prop) (va vb : Value) (w : World), VAgg w F va x → VAgg w F' vb y →
  Calls Tryz.prog 147 #[va, vb] w fun e w' => e = .returned (.int .i64 (cmpV x y)) ∧ Below w.heap.size w w'

theorem cmpL_step {l1 l2 : List VD} {k : Nat} (h1 : k < l1.length) (h2 : k < l2.length) : cmpL (l1.drop k) (l2.drop k) = if cmpV (at_ l1 k) (at_ l2 k) ≠ 0 then cmpV (at_ l1 k) (at_ l2 k) else cmpL (l1.drop (k + 1)) (l2.drop (k + 1)) := by
  rw [at_drop h1, at_drop h2, cmpL]

set_option maxHeartbeats 2000000 in
theorem compareFunc_any (F F' : Nat → Prop) (v1 v2 : Value) (l1 l2 : List VD) (w : World) (h1 : RI w F v1 l1) (h2 : RI w F' v2 l2) (H : ∀ x, x ∈ l1 → ∀ y, CompareAt x y) :
    Calls Tryz.prog 146 #[v1, v2, .func (.func 147) #[] #[]] w fun e w' => e = .returned (.int .i64 (cmpL l1 l2)) ∧ Below w.heap.size w w' := by
  have HH := Lib.hid H
  clear H
  obtain ⟨A1, c1, iA1, iC1, rfl, hc1, hm1, hs1, hw1, hr1⟩ := h1.shape
  obtain ⟨A2, c2, iA2, iC2, rfl, hc2, hm2, hs2, hw2, hr2⟩ := h2.shape
  have HS1 := Lib.hid hs1
  have HS2 := Lib.hid hs2
  have HW1 := Lib.hid hw1
  have HW2 := Lib.hid hw2
  have HR1 := Lib.hid hr1
  have HR2 := Lib.hid hr2
  clear hs1 hs2 hw1 hw2 hr1 hr2 h1 h2
  unfold maxLen at hm1 hm2
  generalize hn1 : l1.length = n1 at *
  generalize hn2 : l2.length = n2 at *
  have HN1 := Lib.hid hn1
  have HN2 := Lib.hid hn2
  clear hn1 hn2
  go_enter Tryz.func146, Tryz.ntmps146
  go_wp2
  go_loopw [7, 8, 9, 10, 13] (fun _ _ _ _ i wr => ∃ k : Nat, k ≤ n1 ∧ k ≤ n2 ∧ i = .int .i64 k ∧ cmpL l1 l2 = cmpL (l1.drop k) (l2.drop k) ∧ Below w.heap.size w wr) (fun _ _ _ _ i _ => n1 - (intOf i).toNat)
  case atStart => exact ⟨0, Nat.zero_le _, Nat.zero_le _, rfl, rfl, Below.refl _ _⟩
  case round =>
    obtain ⟨k, hk1, hk2, rfl, he, hbel⟩ := hrel
    have HE := Lib.hid he
    clear he
    by_cases hlt : k < n1
    · obtain ⟨b1, o1, rfl, hF1, hb1, hcells1⟩ := HS1.out (by omega)
      have C1 := (hcells1 k hlt).keep (hbel.block b1 hb1)
      unfold CellsV at C1
      by_cases hlt2 : k < n2
      · obtain ⟨b2, o2, rfl, hF2, hb2, hcells2⟩ := HS2.out (by omega)
        have C2 := (hcells2 k hlt2).keep (hbel.block b2 hb2)
        unfold CellsV at C2
        have z1 : b1 < wr.heap.size := by have := hbel.size; omega
        have z2 : b2 < wr.heap.size := by have := hbel.size; omega
        have HC1 := Lib.hid hcells1
        have HC2 := Lib.hid hcells2
        clear hcells1 hcells2
        have HL := Lib.hid (cmpL_step (l1 := l1) (l2 := l2) (k := k) (by rw [HN1.out]; exact hlt) (by rw [HN2.out]; exact hlt2))
        have hm1' : at_ l1 k ∈ l1 := at_mem (by rw [HN1.out]; exact hlt)
        have hbW : Below w.heap.size w ((wr.alloc (.cells #[.int .i64 (at_ l1 k).k, .int .i64 (at_ l1 k).n, .int .i64 (at_ l1 k).sc, .string (at_ l1 k).s, .slice (iA1 k) (at_ l1 k).items.length (iC1 k)] 33)).alloc (.cells #[.int .i64 (at_ l2 k).k, .int .i64 (at_ l2 k).n, .int .i64 (at_ l2 k).sc, .string (at_ l2 k).s, .slice (iA2 k) (at_ l2 k).items.length (iC2 k)] 33)) := (hbel.alloc hbel.size _).alloc (by have := hbel.size; simp; omega) _
        go_wp2_with fail
        refine (HH.out (at_ l1 k) hm1' (at_ l2 k) F F' _ _ _ (VAgg.of_at (HW1.out k hlt) ((HR1.out k hlt).later hbW)) (VAgg.of_at (HW2.out k hlt2) ((HR2.out k hlt2).later hbW))).mono ?_
        rintro e w1 ⟨rfl, hb⟩
        have hbel1 := hbW.trans (hb.mono hbW.size)
        clear hb hbW C1 C2 hm1' hbel
        generalize cmpV (at_ l1 k) (at_ l2 k) = cv at HL ⊢
        by_cases hz : cv = 0
        · have e1 : (cv != 0) = false := by simp [hz]
          have HZ := Lib.hid hz
          clear hz
          go_wp2_with fail
          go_roundw
          case rel => exact ⟨k + 1, hlt, hlt2, by go_num, by rw [HE.out, HL.out, HZ.out]; rfl, hbel1⟩
          case measure => simp [intOf]; omega
        · have e1 : (cv != 0) = true := by simp [hz]
          have HZ := Lib.hid hz
          clear hz
          go_wp2_with fail
          go_ret
          exact ⟨ret_int (by rw [HE.out, HL.out, if_pos HZ.out]), hbel1⟩
      · obtain rfl : k = n2 := by omega
        have HL := Lib.hid (show cmpL (l1.drop k) (l2.drop k) = 1 by
          rw [at_drop (by rw [HN1.out]; exact hlt), List.drop_of_length_le (l := l2) (by rw [HN2.out]; exact Nat.le_refl _)]
          rfl)
        have z1 : b1 < wr.heap.size := by have := hbel.size; omega
        have HC1 := Lib.hid hcells1
        clear hcells1
        go_wp2_with fail
        go_ret
        exact ⟨ret_int (by rw [HE.out, HL.out]), hbel.alloc hbel.size _⟩
    · obtain rfl : k = n1 := by omega
      by_cases hlt2 : k < n2
      · have HL := Lib.hid (show cmpL (l1.drop k) (l2.drop k) = -1 by
          rw [at_drop (l := l2) (by rw [HN2.out]; exact hlt2), List.drop_of_length_le (by rw [HN1.out]; exact Nat.le_refl _)]
          rfl)
        go_wp2_with fail
        go_ret
        exact ⟨ret_int (by rw [HE.out, HL.out]), hbel⟩
      · have HL := Lib.hid (show cmpL (l1.drop k) (l2.drop k) = 0 by
          rw [List.drop_of_length_le (by rw [HN1.out]; exact Nat.le_refl _), List.drop_of_length_le (by rw [HN2.out]; omega)]
          rfl)
        go_wp2_with fail
        go_ret
        exact ⟨ret_int (by rw [HE.out, HL.out]), hbel⟩

theorem cfCmpInt : ∀ (args : Array Value) (w : World), (callFunc 182 args).run Tryz.prog w = .ok (.enter 182 args) w := fun _ _ => by simp [go_sem]
theorem cfCmpStr : ∀ (args : Array Value) (w : World), (callFunc 219 args).run Tryz.prog w = .ok (.enter 219 args) w := fun _ _ => by simp [go_sem]
theorem cfCompareFunc : ∀ (args : Array Value) (w : World), (callFunc 146 args).run Tryz.prog w = .ok (.enter 146 args) w := fun _ _ => by simp [go_sem]

/-- what rest says of two values -/
def restV (x y : VD) : Int := orI (cmpI x.sc y.sc) (orI (cmpS x.s y.s) (cmpL x.items y.items))

set_option maxHeartbeats 2000000 in
theorem rest_any (F F' : Nat → Prop) (va vb : Value) (x y : VD) (w : World) (h1 : VAgg w F va x) (h2 : VAgg w F' vb y) (H : ∀ x', x' ∈ x.items → ∀ y', CompareAt x' y') :
    Calls Tryz.prog 186 #[va, vb] w fun e w' => e = .returned (.int .i64 (restV x y)) ∧ Below w.heap.size w w' := by
  have HH := Lib.hid H
  clear H
  obtain ⟨A1, c1, rfl, ho1, hr1⟩ := h1
  obtain ⟨A2, c2, rfl, ho2, hr2⟩ := h2
  have HR1 := Lib.hid hr1
  have HR2 := Lib.hid hr2
  clear hr1 hr2
  go_enter Tryz.func186, Tryz.ntmps186
  go_wp2_with fail
  generalize hW : (w.alloc (.cells #[.int .i64 x.k, .int .i64 x.n, .int .i64 x.sc, .string x.s, .slice A1 x.items.length c1] 33)).alloc (.cells #[.int .i64 y.k, .int .i64 y.n, .int .i64 y.sc, .string y.s, .slice A2 y.items.length c2] 33) = W
  have B0 : Blk W w.heap.size 33 [.int .i64 x.k, .int .i64 x.n, .int .i64 x.sc, .string x.s, .slice A1 x.items.length c1] := hW ▸ (Blk.new w _ _).alloc _
  have B1 : Blk W (w.heap.size + 1) 33 [.int .i64 y.k, .int .i64 y.n, .int .i64 y.sc, .string y.s, .slice A2 y.items.length c2] := by
    have h := Blk.new (w.alloc (.cells #[.int .i64 x.k, .int .i64 x.n, .int .i64 x.sc, .string x.s, .slice A1 x.items.length c1] 33)) 33 [.int .i64 y.k, .int .i64 y.n, .int .i64 y.sc, .string y.s, .slice A2 y.items.length c2]
    rw [← hW]
    simpa using h
  have hbel : Below w.heap.size w W := hW ▸ (below_new w _).alloc (by simp) _
  clear hW
  have hbw := Lib.hid (fun w' (h : Tab.Ext (fun _ => False) W.drew w') => (show Below w.heap.size w w' from hbel.drew.trans (h.below.mono hbel.size)))
  have q0 := fun w' (h : Tab.Ext (fun _ => False) W.drew w') => wcell5 (B0.drew.ext h id)
  have q1 := fun w' (h : Tab.Ext (fun _ => False) W.drew w') => wcell5 (B1.drew.ext h id)
  refine Tab.wp_region_tab_tail 15 (Tab.Ext fun _ => False) (by kernel_rfl) (by kernel_rfl) (by kernel_rfl) (fun _ => Tab.Ext.refl _ _) (fun _ _ _ h k => h.trans k) ?_
  iterate 4 (first | (refine Tab.tab_moveE _ rfl (Tab.silent_true _) (.inl rfl) rfl rfl (fun _ => Tab.Ext.refl _ _) ?_; apply Exists.intro; refine And.intro ?_ ?_; focus (simp [Tab.Env.ev, Tab.Env.get]; rfl)) | (refine Tab.tab_moveE _ rfl (Tab.silent_true _) (.inr rfl) rfl rfl (fun _ => Tab.Ext.refl _ _) ?_; apply Exists.intro; refine And.intro ?_ ?_; focus (simp [Tab.Env.ev, Tab.Env.get]; rfl)) | refine Tab.tab_skip rfl (Tab.silent_true _) rfl ?_ | (refine Tab.tab_repE rfl (Tab.silent_true _) rfl (fun _ _ h => by cases h) rfl (fun _ => Tab.Ext.refl _ _) ?_; apply Exists.intro; refine And.intro (fun l w' _ _ hw => ?_) ?_; focus (go_simp; rfl)) | (refine Tab.tab_repE rfl (Tab.silent_true _) rfl (fun _ _ h => by cases h) rfl (fun _ => Tab.Ext.refl _ _) ?_; apply Exists.intro; refine And.intro (fun l w' hs hc hw => ?_) ?_; focus (go_simp; rfl)))
  refine Tab.tab_call_is (.int .i64 (cmpI x.sc y.sc)) rfl rfl rfl cfCmpInt rfl (fun l_ w' _ _ _ hw => ?_) ?_
  · show Calls _ _ #[.int .i64 x.sc, .int .i64 y.sc] w' _
    refine (cmpInt_any _ _ _).mono ?_
    rintro e_ w_ ⟨rfl, rfl⟩
    exact ⟨rfl, Tab.Ext.refl _ _, trivial⟩
  iterate 4 (first | (refine Tab.tab_moveE _ rfl (Tab.silent_true _) (.inl rfl) rfl rfl (fun _ => Tab.Ext.refl _ _) ?_; apply Exists.intro; refine And.intro ?_ ?_; focus (simp [Tab.Env.ev, Tab.Env.get]; rfl)) | (refine Tab.tab_moveE _ rfl (Tab.silent_true _) (.inr rfl) rfl rfl (fun _ => Tab.Ext.refl _ _) ?_; apply Exists.intro; refine And.intro ?_ ?_; focus (simp [Tab.Env.ev, Tab.Env.get]; rfl)) | refine Tab.tab_skip rfl (Tab.silent_true _) rfl ?_ | (refine Tab.tab_repE rfl (Tab.silent_true _) rfl (fun _ _ h => by cases h) rfl (fun _ => Tab.Ext.refl _ _) ?_; apply Exists.intro; refine And.intro (fun l w' _ _ hw => ?_) ?_; focus (go_simp; rfl)) | (refine Tab.tab_repE rfl (Tab.silent_true _) rfl (fun _ _ h => by cases h) rfl (fun _ => Tab.Ext.refl _ _) ?_; apply Exists.intro; refine And.intro (fun l w' hs hc hw => ?_) ?_; focus (go_simp; rfl)))
  refine Tab.tab_call_is (.int .i64 (cmpS x.s y.s)) rfl rfl rfl cfCmpStr rfl (fun l_ w' _ _ _ hw => ?_) ?_
  · show Calls _ _ #[.string x.s, .string y.s] w' _
    refine (cmpStr_any _ _ _).mono ?_
    rintro e_ w_ ⟨rfl, rfl⟩
    exact ⟨rfl, Tab.Ext.refl _ _, trivial⟩
  iterate 4 (first | (refine Tab.tab_moveE _ rfl (Tab.silent_true _) (.inl rfl) rfl rfl (fun _ => Tab.Ext.refl _ _) ?_; apply Exists.intro; refine And.intro ?_ ?_; focus (simp [Tab.Env.ev, Tab.Env.get]; rfl)) | (refine Tab.tab_moveE _ rfl (Tab.silent_true _) (.inr rfl) rfl rfl (fun _ => Tab.Ext.refl _ _) ?_; apply Exists.intro; refine And.intro ?_ ?_; focus (simp [Tab.Env.ev, Tab.Env.get]; rfl)) | refine Tab.tab_skip rfl (Tab.silent_true _) rfl ?_ | (refine Tab.tab_repE rfl (Tab.silent_true _) rfl (fun _ _ h => by cases h) rfl (fun _ => Tab.Ext.refl _ _) ?_; apply Exists.intro; refine And.intro (fun l w' _ _ hw => ?_) ?_; focus (go_simp; rfl)) | (refine Tab.tab_repE rfl (Tab.silent_true _) rfl (fun _ _ h => by cases h) rfl (fun _ => Tab.Ext.refl _ _) ?_; apply Exists.intro; refine And.intro (fun l w' hs hc hw => ?_) ?_; focus (go_simp; rfl)))
  refine Tab.tab_call_is (.int .i64 (cmpL x.items y.items)) rfl rfl rfl cfCompareFunc rfl (fun l_ w' _ _ _ hw => ?_) ?_
  · show Calls _ _ #[.slice A1 x.items.length c1, .slice A2 y.items.length c2, .func (.func 147) #[] #[]] w' _
    refine (compareFunc_any F F' _ _ _ _ w' (HR1.out.later (hbw.out _ hw)) (HR2.out.later (hbw.out _ hw)) HH.out).mono ?_
    rintro e_ w_ ⟨rfl, hb_⟩
    exact ⟨rfl, Tab.Ext.of_below hb_, trivial⟩
  intro a_ w_ hw_ hsat_
  refine Tab.fin_of_sat rfl ?_ hsat_
  simp only [Tab.fin, Act.put, List.setIfInBounds_toArray, List.set_cons_succ, List.set_cons_zero, List.drop_succ_cons, List.drop_zero]
  have hbel' := hbw.out _ hw_
  clear hsat_ hw_ B0 B1 hbel q0 q1 hbw
  go_wp2_with fail
  refine (or3_any _ _ _ w_ _ rfl).mono ?_
  rintro e w2 ⟨rfl, rfl⟩
  go_wp2_with fail
  go_ret
  exact ⟨rfl, hbel'.alloc hbel'.size _⟩

theorem cmpV_eq (x y : VD) : cmpV x y =
    if x.k ≠ y.k then (if x.k = 0 then 1 else if y.k = 0 then -1 else cmpI x.k y.k)
    else if x.k = 0 then 0
    else if x.k = 3 then
        (if scaleOk x.sc && scaleOk y.sc then orI (cmpI (x.n * 10 ^ (12 - x.sc).toNat) (y.n * 10 ^ (12 - y.sc).toNat)) (restV x y)
         else if scaleOk x.sc then -1 else if scaleOk y.sc then 1 else orI (cmpI x.n y.n) (restV x y))
      else orI (cmpI x.n y.n) (restV x y) := by
  cases x; cases y
  rfl
end Go.Proofs.YthejmnmkbldacaaGreatDoor
