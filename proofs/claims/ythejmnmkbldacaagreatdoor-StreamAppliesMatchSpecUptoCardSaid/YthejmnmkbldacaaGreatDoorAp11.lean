/-
  What is proved: what the reference's Compare computes, of values of every size. Conditions: none.
-/
import Derived.Test.YthejmnmkbldacaaGreatDoorAp10
set_option linter.all false
namespace Go.Proofs.YthejmnmkbldacaaGreatDoor
open Go.RowKit
attribute [local go_sem] Tab.Env.ev Tab.Env.get

/-- the reference's Compare's contract at two values -/
def CompareRAt (x y : VD) : Prop := ∀ (F F' : Nat → Prop) (va vb : Value) (w : World), VAgg w F va x → VAgg w F' vb y →
  Calls Tryz.prog 117 #[va, vb] w fun e w' => e = .returned (.int .i64 (cmpV x y)) ∧ Below w.heap.size w w'

theorem orI_assoc (a b c : Int) : orI (orI a b) c = orI a (orI b c) := by
  by_cases h : a = 0
  · rw [orI_neg h, orI_neg h]
  · rw [orI_pos h, orI_pos h, orI_pos h]
theorem cmpV_dec {x y : VD} (hk : x.k = y.k) (h3 : x.k = 3) : cmpV x y = orI (decV x y) (orI (cmpS x.s y.s) (cmpL x.items y.items)) := by
  rw [cmpV_eq, if_neg (by simp [hk]), if_neg (by omega), if_pos h3]
  unfold decV restV
  cases hx : scaleOk x.sc <;> cases hy : scaleOk y.sc
  · simp [orI_assoc]
  · simp [orI]
  · simp [orI]
  · simp [orI_assoc]
theorem decV_scale {x y : VD} (h : decV x y = 0) : x.sc = y.sc := by
  unfold decV at h
  have hc : ∀ a b : Int, cmpI a b = 0 → a = b := fun a b h => Decidable.byContradiction fun hne => cmpI_ne hne h
  have ho : ∀ a b : Int, orI a b = 0 → b = 0 := fun a b h => by
    by_cases ha : a = 0
    · rwa [orI_neg ha] at h
    · rw [orI_pos ha] at h; exact absurd h ha
  cases hx : scaleOk x.sc <;> cases hy : scaleOk y.sc <;> rw [hx, hy] at h
  · simp at h
    exact hc _ _ (ho _ _ h)
  · simp at h
  · simp at h
  · simp at h
    exact hc _ _ (ho _ _ h)
theorem cmpV_plain {x y : VD} (hk : x.k = y.k) (h0 : x.k ≠ 0) (h3 : x.k ≠ 3) : cmpV x y = orI (cmpI x.n y.n) (orI (cmpI x.sc y.sc) (orI (cmpS x.s y.s) (cmpL x.items y.items))) := by
  rw [cmpV_eq, if_neg (by simp [hk]), if_neg h0, if_neg h3]
  rfl

theorem items_end {l r : List VD} {k : Nat} (h1 : k ≤ l.length) (h2 : k ≤ r.length) (h : k = l.length ∨ k = r.length) : cmpL (l.drop k) (r.drop k) = cmpI l.length r.length := by
  by_cases ha : k = l.length
  · rw [List.drop_of_length_le (by omega)]
    by_cases hb : k = r.length
    · rw [List.drop_of_length_le (by omega), cmpI_eq (by omega)]
      rfl
    · rw [List.drop_eq_getElem_cons (by omega), cmpI_lt (by omega)]
      rfl
  · rw [List.drop_eq_getElem_cons (by omega), List.drop_of_length_le (l := r) (by omega), cmpI_gt (by omega)]
    rfl
theorem cfCompareR : ∀ (args : Array Value) (w : World), (callFunc 117 args).run Tryz.prog w = .ok (.enter 117 args) w := fun _ _ => by simp [go_sem]
theorem cfDecimals : ∀ (args : Array Value) (w : World), (callFunc 151 args).run Tryz.prog w = .ok (.enter 151 args) w := fun _ _ => by simp [go_sem]

section
variable (F F' : Nat → Prop) (x y : VD) (w : World) (A1 A2 : Option Addr) (c1 c2 : Nat) (ho1 : x.ok) (ho2 : y.ok) (hr1 : RI w F (.slice A1 x.items.length c1) x.items) (hr2 : RI w F' (.slice A2 y.items.length c2) y.items) (H : ∀ x', x' ∈ x.items → ∀ y', CompareRAt x' y')
include ho1 ho2 hr1 hr2 H

set_option linter.unusedSectionVars false
set_option maxHeartbeats 2000000 in
theorem compareR_kinds (hk : x.k ≠ y.k) :
    Calls Tryz.prog 117 #[.agg #[.int .i64 x.k, .int .i64 x.n, .int .i64 x.sc, .string x.s, .slice A1 x.items.length c1], .agg #[.int .i64 y.k, .int .i64 y.n, .int .i64 y.sc, .string y.s, .slice A2 y.items.length c2]] w fun e w' => e = .returned (.int .i64 (cmpV x y)) ∧ Below w.heap.size w w' := by
  have HE := Lib.hid (cmpV_eq x y)
  have e1 : (x.k != y.k) = true := by simp [hk]
  have HK := Lib.hid hk
  clear H hr1 hr2 ho1 ho2
  by_cases hx : x.k = 0
  · have HX := Lib.hid hx
    have e2 : (x.k == 0) = true := by simp [hx]
    have e3 : (y.k == 0) = false := by simp; omega
    have e4 : (true != false) = true := rfl
    clear hx hk
    go_enter Tryz.func117, Tryz.ntmps117
    go_wp2_with fail
    go_ret
    exact ⟨ret_int (by rw [HE.out, if_pos HK.out, if_pos HX.out]), ((below_new w _).alloc (by simp) _)⟩
  · have HX := Lib.hid hx
    have e2 : (x.k == 0) = false := by simp [hx]
    clear hx hk
    by_cases hy : y.k = 0
    · have HY := Lib.hid hy
      have e3 : (y.k == 0) = true := by simp [hy]
      clear hy
      go_enter Tryz.func117, Tryz.ntmps117
      go_wp2_with fail
      go_ret
      exact ⟨ret_int (by rw [HE.out, if_pos HK.out, if_neg HX.out, if_pos HY.out]), ((below_new w _).alloc (by simp) _)⟩
    · have HY := Lib.hid hy
      have e3 : (y.k == 0) = false := by simp [hy]
      clear hy
      go_enter Tryz.func117, Tryz.ntmps117
      go_wp2_with (go_at_call 150; refine (order_any _ _ _).mono ?_; rintro e w' ⟨rfl, rfl⟩)
      go_ret
      exact ⟨ret_int (by rw [HE.out, if_pos HK.out, if_neg HX.out, if_neg HY.out]), ((below_new w _).alloc (by simp) _)⟩

set_option maxHeartbeats 2000000 in
theorem compareR_null (hk : x.k = y.k) (h0 : x.k = 0) :
    Calls Tryz.prog 117 #[.agg #[.int .i64 x.k, .int .i64 x.n, .int .i64 x.sc, .string x.s, .slice A1 x.items.length c1], .agg #[.int .i64 y.k, .int .i64 y.n, .int .i64 y.sc, .string y.s, .slice A2 y.items.length c2]] w fun e w' => e = .returned (.int .i64 (cmpV x y)) ∧ Below w.heap.size w w' := by
  have HE := Lib.hid (show cmpV x y = 0 by rw [cmpV_eq, if_neg (by simp [hk]), if_pos h0])
  have e2 : (x.k == 0) = true := by simp [h0]
  have e3 : (y.k == 0) = true := by simp [← hk, h0]
  clear hk h0 H hr1 hr2 ho1 ho2
  go_enter Tryz.func117, Tryz.ntmps117
  go_wp2_with fail
  go_ret
  exact ⟨ret_int HE.out.symm, ((below_new w _).alloc (by simp) _)⟩

set_option maxHeartbeats 2000000 in
theorem compareR_plain (hk : x.k = y.k) (h0 : x.k ≠ 0) (h3 : x.k ≠ 3) :
    Calls Tryz.prog 117 #[.agg #[.int .i64 x.k, .int .i64 x.n, .int .i64 x.sc, .string x.s, .slice A1 x.items.length c1], .agg #[.int .i64 y.k, .int .i64 y.n, .int .i64 y.sc, .string y.s, .slice A2 y.items.length c2]] w fun e w' => e = .returned (.int .i64 (cmpV x y)) ∧ Below w.heap.size w w' := by
  have HE := Lib.hid (cmpV_plain hk h0 h3)
  have e1 : (x.k != y.k) = false := by simp [hk]
  have e2 : (x.k == 0) = false := by simp [h0]
  have e3 : (y.k == 0) = false := by simp [← hk, h0]
  have e4 : (x.k == 3) = false := by simp [h3]
  have e5 : (x.k != 3) = true := by simp [h3]
  have HH := Lib.hid H
  have HR1 := Lib.hid hr1
  have HR2 := Lib.hid hr2
  have HO1 := Lib.hid ho1
  have HO2 := Lib.hid ho2
  clear hk h0 h3 H hr1 hr2 ho1 ho2
  by_cases hn : x.n = y.n
  · have e6 : (x.n != y.n) = false := by simp [hn]
    have HE2 := Lib.hid (HE.out.trans (orI_neg (cmpI_eq hn)))
    clear hn HE
    by_cases hs : x.sc = y.sc
    · have e7 : (x.sc != y.sc) = false := by simp [hs]
      have HE3 := Lib.hid (HE2.out.trans (orI_neg (cmpI_eq hs)))
      clear hs HE2
      go_enter Tryz.func117, Tryz.ntmps117
      have st := cmpStart w x y A1 c1 A2 c2
      go_wp2_with fail
      refine (texts_any x.s y.s HO1.out.s HO2.out.s _).mono ?_
      rintro e w1 ⟨rfl, hb⟩
      have st1 : CmpStart w w1 x y A1 c1 A2 c2 := ⟨st.B0.below hb st.B0.lt, st.B1.below hb st.B1.lt, st.below.trans (hb.mono st.below.size)⟩
      clear st hb
      have q0 := wcell5 st1.B0
      have q1 := wcell5 st1.B1
      by_cases ht : cmpS x.s y.s = 0
      · have e8 : (cmpS x.s y.s != 0) = false := by simp [ht]
        have HE4 := Lib.hid (HE3.out.trans (orI_neg ht))
        clear ht HE3
        go_wp2_with fail
        obtain ⟨A1', c1', iA1, iC1, he1, hc1, hm1, hs1, hw1, hr1⟩ := HR1.out.shape
        obtain ⟨A2', c2', iA2, iC2, he2, hc2, hm2, hs2, hw2, hr2⟩ := HR2.out.shape
        cases he1
        cases he2
        have HS1 := Lib.hid hs1
        have HS2 := Lib.hid hs2
        have HW1 := Lib.hid hw1
        have HW2 := Lib.hid hw2
        have HI1 := Lib.hid hr1
        have HI2 := Lib.hid hr2
        clear hs1 hs2 hw1 hw2 hr1 hr2 q0 q1
        unfold maxLen at hm1 hm2
        obtain ⟨n1, hn1⟩ : ∃ n, x.items.length = n := ⟨_, rfl⟩
        obtain ⟨n2, hn2⟩ : ∃ n, y.items.length = n := ⟨_, rfl⟩
        have B0 := st1.B0
        have B1 := st1.B1
        have hbel1 := st1.below
        clear st1
        rw [hn1] at B0 hc1
        rw [hn2] at B1 hc2
        rw [hn1, hn2]
        have HN1 := Lib.hid hn1
        have HN2 := Lib.hid hn2
        clear hn1 hn2
        go_loopw [7, 8] (fun i _ wr => ∃ k : Nat, k ≤ n1 ∧ k ≤ n2 ∧ i = .int .i64 k ∧ cmpL x.items y.items = cmpL (x.items.drop k) (y.items.drop k) ∧ Below w1.heap.size w1 wr) (fun i _ _ => n1 - (intOf i).toNat)
        case atStart => exact ⟨0, Nat.zero_le _, Nat.zero_le _, rfl, rfl, Below.refl _ _⟩
        case round =>
          obtain ⟨k, hk1, hk2, rfl, he, hbel⟩ := hrel
          have HC := Lib.hid (HE4.out.trans he)
          clear he
          have D0 := B0.below hbel B0.lt
          have D1 := B1.below hbel B1.lt
          have hbel2 := hbel1.trans (hbel.mono hbel1.size)
          have q0 := wcell5 D0
          have q1 := wcell5 D1
          by_cases hlt : k < n1
          · by_cases hlt2 : k < n2
            · obtain ⟨b1, o1, rfl, hF1, hb1, hcells1⟩ := HS1.out (by rw [HN1.out]; omega)
              obtain ⟨b2, o2, rfl, hF2, hb2, hcells2⟩ := HS2.out (by rw [HN2.out]; omega)
              have C1 := (hcells1 k (by rw [HN1.out]; exact hlt)).keep (hbel2.block b1 hb1)
              have C2 := (hcells2 k (by rw [HN2.out]; exact hlt2)).keep (hbel2.block b2 hb2)
              have z1 : b1 < wr.heap.size := by have := hbel2.size; omega
              have z2 : b2 < wr.heap.size := by have := hbel2.size; omega
              have HO1' := HW1.out k (by rw [HN1.out]; exact hlt)
              have HO2' := HW2.out k (by rw [HN2.out]; exact hlt2)
              have HR1' := HI1.out k (by rw [HN1.out]; exact hlt)
              have HR2' := HI2.out k (by rw [HN2.out]; exact hlt2)
              have HL := Lib.hid (cmpL_step (l1 := x.items) (l2 := y.items) (k := k) (by rw [HN1.out]; exact hlt) (by rw [HN2.out]; exact hlt2))
              have hm1' : at_ x.items k ∈ x.items := at_mem (by rw [HN1.out]; exact hlt)
              have HCALL := Lib.hid (fun w' (h : Below w.heap.size w w') => HH.out _ hm1' (at_ y.items k) F F' _ _ w' (VAgg.of_at HO1' (HR1'.later h)) (VAgg.of_at HO2' (HR2'.later h)))
              clear hcells1 hcells2 HO1' HO2' HR1' HR2' hm1' HS1 HS2 HW1 HW2 HI1 HI2
              generalize at_ x.items k = xk at *
              generalize at_ y.items k = yk at *
              go_wp2_with fail
              clear q0 q1
              have q0 := fun w' (h : Tab.Ext (fun _ => False) wr.drew w') => wcell5 (D0.drew.ext h id)
              have q1 := fun w' (h : Tab.Ext (fun _ => False) wr.drew w') => wcell5 (D1.drew.ext h id)
              have q2 := fun w' (h : Tab.Ext (fun _ => False) wr.drew w') => C1.keep (h.block b1 z1 id)
              have q3 := fun w' (h : Tab.Ext (fun _ => False) wr.drew w') => C2.keep (h.block b2 z2 id)
              have hbw := Lib.hid (fun w' (h : Tab.Ext (fun _ => False) wr.drew w') => (show Below w.heap.size w w' from hbel2.drew.trans (h.below.mono hbel2.size)))
              unfold CellsV at q2 q3
              clear D0 D1 C1 C2
              refine Tab.wp_region_tab (Tab.Ext fun _ => False) (by kernel_rfl) (by kernel_rfl) (fun _ => Tab.Ext.refl _ _) (fun _ _ _ h k => h.trans k) ?_
              iterate 10 (first | (refine Tab.tab_moveE _ rfl (Tab.silent_true _) (.inl rfl) rfl rfl (fun _ => Tab.Ext.refl _ _) ?_; apply Exists.intro; refine And.intro ?_ ?_; focus (simp [Tab.Env.ev, Tab.Env.get]; rfl)) | (refine Tab.tab_moveE _ rfl (Tab.silent_true _) (.inr rfl) rfl rfl (fun _ => Tab.Ext.refl _ _) ?_; apply Exists.intro; refine And.intro ?_ ?_; focus (simp [Tab.Env.ev, Tab.Env.get]; rfl)) | refine Tab.tab_skip rfl (Tab.silent_true _) rfl ?_ | (refine Tab.tab_repE rfl (Tab.silent_true _) rfl (fun _ _ h => by cases h) rfl (fun _ => Tab.Ext.refl _ _) ?_; apply Exists.intro; refine And.intro (fun l w' _ _ hw => ?_) ?_; focus (go_simp; rfl)) | (refine Tab.tab_repE rfl (Tab.silent_true _) rfl (fun _ _ h => by cases h) rfl (fun _ => Tab.Ext.refl _ _) ?_; apply Exists.intro; refine And.intro (fun l w' hs hc hw => ?_) ?_; focus (go_simp; rfl)))
              refine Tab.tab_call_is (.int .i64 (cmpV xk yk)) rfl rfl rfl cfCompareR rfl (fun l_ w' _ _ _ hw => ?_) ?_
              · show Calls _ _ #[.agg #[.int .i64 xk.k, .int .i64 xk.n, .int .i64 xk.sc, .string xk.s, .slice (iA1 k) xk.items.length (iC1 k)], .agg #[.int .i64 yk.k, .int .i64 yk.n, .int .i64 yk.sc, .string yk.s, .slice (iA2 k) yk.items.length (iC2 k)]] w' _
                refine (HCALL.out w' (hbw.out _ hw)).mono ?_
                rintro e_ w_ ⟨rfl, hb_⟩
                exact ⟨rfl, Tab.Ext.of_below hb_, trivial⟩
              iterate 1 (first | (refine Tab.tab_moveE _ rfl (Tab.silent_true _) (.inl rfl) rfl rfl (fun _ => Tab.Ext.refl _ _) ?_; apply Exists.intro; refine And.intro ?_ ?_; focus (simp [Tab.Env.ev, Tab.Env.get]; rfl)) | (refine Tab.tab_moveE _ rfl (Tab.silent_true _) (.inr rfl) rfl rfl (fun _ => Tab.Ext.refl _ _) ?_; apply Exists.intro; refine And.intro ?_ ?_; focus (simp [Tab.Env.ev, Tab.Env.get]; rfl)) | refine Tab.tab_skip rfl (Tab.silent_true _) rfl ?_ | (refine Tab.tab_repE rfl (Tab.silent_true _) rfl (fun _ _ h => by cases h) rfl (fun _ => Tab.Ext.refl _ _) ?_; apply Exists.intro; refine And.intro (fun l w' _ _ hw => ?_) ?_; focus (go_simp; rfl)) | (refine Tab.tab_repE rfl (Tab.silent_true _) rfl (fun _ _ h => by cases h) rfl (fun _ => Tab.Ext.refl _ _) ?_; apply Exists.intro; refine And.intro (fun l w' hs hc hw => ?_) ?_; focus (go_simp; rfl)))
              intro a_ w_ hw_ hsat_
              refine Tab.fin_of_sat rfl ?_ hsat_
              simp only [Tab.fin, Act.put, List.setIfInBounds_toArray, List.set_cons_succ, List.set_cons_zero]
              have hbel3 := hbw.out _ hw_
              have hbel4 := hbel.drew.trans (hw_.below.mono hbel.size)
              clear hsat_ hw_ q0 q1 q2 q3 HCALL hbw hbel hbel2
              generalize cmpV xk yk = cv at HL ⊢
              by_cases hz : cv = 0
              · have e9 : (cv != 0) = false := by simp [hz]
                have HX := Lib.hid (HL.out.trans (if_neg (by simp [hz])))
                clear hz HL
                go_wp2_with fail
                go_roundw
                case rel => exact ⟨k + 1, hlt, hlt2, by go_num, (HE4.out.symm.trans HC.out).trans HX.out, hbel4⟩
                case measure => simp [intOf]; omega
              · have e9 : (cv != 0) = true := by simp [hz]
                have HX := Lib.hid (HL.out.trans (if_pos hz))
                clear hz HL
                go_wp2_with fail
                go_ret
                exact ⟨ret_int (HC.out.trans HX.out).symm, hbel3⟩
            · have HX := Lib.hid (HC.out.trans (items_end (by rw [HN1.out]; exact hk1) (by rw [HN2.out]; exact hk2) (.inr (by rw [HN2.out]; omega))))
              rw [HN1.out, HN2.out] at HX
              go_wp2_with (go_at_call 150; refine (order_any _ _ _).mono ?_; rintro e w' ⟨rfl, rfl⟩)
              go_ret
              exact ⟨ret_int HX.out.symm, hbel2⟩
          · have HX := Lib.hid (HC.out.trans (items_end (by rw [HN1.out]; exact hk1) (by rw [HN2.out]; exact hk2) (.inl (by rw [HN1.out]; omega))))
            rw [HN1.out, HN2.out] at HX
            go_wp2_with (go_at_call 150; refine (order_any _ _ _).mono ?_; rintro e w' ⟨rfl, rfl⟩)
            go_ret
            exact ⟨ret_int HX.out.symm, hbel2⟩
      · have e8 : (cmpS x.s y.s != 0) = true := by simp [ht]
        have HE4 := Lib.hid (HE3.out.trans (orI_pos ht))
        clear ht HE3
        have hbel1 := st1.below
        go_wp2_with fail
        go_ret
        exact ⟨ret_int HE4.out.symm, hbel1⟩
    · have e7 : (x.sc != y.sc) = true := by simp [hs]
      have HE3 := Lib.hid (HE2.out.trans (orI_pos (cmpI_ne hs)))
      clear hs HE2
      go_enter Tryz.func117, Tryz.ntmps117
      go_wp2_with (go_at_call 150; refine (order_any _ _ _).mono ?_; rintro e w' ⟨rfl, rfl⟩)
      go_ret
      exact ⟨ret_int HE3.out.symm, ((below_new w _).alloc (by simp) _)⟩
  · have e6 : (x.n != y.n) = true := by simp [hn]
    have HE2 := Lib.hid (HE.out.trans (orI_pos (cmpI_ne hn)))
    clear hn HE
    go_enter Tryz.func117, Tryz.ntmps117
    go_wp2_with (go_at_call 150; refine (order_any _ _ _).mono ?_; rintro e w' ⟨rfl, rfl⟩)
    go_ret
    exact ⟨ret_int HE2.out.symm, ((below_new w _).alloc (by simp) _)⟩

set_option maxHeartbeats 2000000 in
theorem compareR_decimal (hk : x.k = y.k) (h3 : x.k = 3) :
    Calls Tryz.prog 117 #[.agg #[.int .i64 x.k, .int .i64 x.n, .int .i64 x.sc, .string x.s, .slice A1 x.items.length c1], .agg #[.int .i64 y.k, .int .i64 y.n, .int .i64 y.sc, .string y.s, .slice A2 y.items.length c2]] w fun e w' => e = .returned (.int .i64 (cmpV x y)) ∧ Below w.heap.size w w' := by
  have HE := Lib.hid (cmpV_dec hk h3)
  have e1 : (x.k != y.k) = false := by simp [hk]
  have e2 : (x.k == 0) = false := by simp [h3]
  have e3 : (y.k == 0) = false := by simp [← hk, h3]
  have e4 : (x.k == 3) = true := by simp [h3]
  have e5 : (x.k != 3) = false := by simp [h3]
  have HH := Lib.hid H
  have HR1 := Lib.hid hr1
  have HR2 := Lib.hid hr2
  have HO1 := Lib.hid ho1
  have HO2 := Lib.hid ho2
  have HDS := Lib.hid (fun h => decV_scale (x := x) (y := y) h)
  clear hk h3 H hr1 hr2 ho1 ho2
  go_enter Tryz.func117, Tryz.ntmps117
  have st := cmpStart w x y A1 c1 A2 c2
  go_wp2_with fail
  refine (decimals_any x y HO1.out HO2.out A1 A2 c1 c2 _).mono ?_
  rintro e w0 ⟨rfl, hb⟩
  have st1 : CmpStart w w0 x y A1 c1 A2 c2 := ⟨st.B0.below hb st.B0.lt, st.B1.below hb st.B1.lt, st.below.trans (hb.mono st.below.size)⟩
  clear st hb
  have q0 := wcell5 st1.B0
  have q1 := wcell5 st1.B1
  have st := st1
  clear st1
  by_cases hd : decV x y = 0
  · have e6 : (decV x y != 0) = false := by simp [hd]
    have HE3 := Lib.hid (HE.out.trans (orI_neg hd))
    have hs := HDS.out hd
    have e7 : (x.sc != y.sc) = false := by simp [hs]
    clear hd HE hs HDS
    by_cases hn : x.n = y.n
    · have e10 : (x.n != y.n) = false := by simp [hn]
      clear hn
      go_wp2_with fail
      refine (texts_any x.s y.s HO1.out.s HO2.out.s _).mono ?_
      rintro e w1 ⟨rfl, hb⟩
      have st1 : CmpStart w w1 x y A1 c1 A2 c2 := ⟨st.B0.below hb st.B0.lt, st.B1.below hb st.B1.lt, st.below.trans (hb.mono st.below.size)⟩
      clear st hb
      have q0 := wcell5 st1.B0
      have q1 := wcell5 st1.B1
      by_cases ht : cmpS x.s y.s = 0
      · have e8 : (cmpS x.s y.s != 0) = false := by simp [ht]
        have HE4 := Lib.hid (HE3.out.trans (orI_neg ht))
        clear ht HE3
        go_wp2_with fail
        obtain ⟨A1', c1', iA1, iC1, he1, hc1, hm1, hs1, hw1, hr1⟩ := HR1.out.shape
        obtain ⟨A2', c2', iA2, iC2, he2, hc2, hm2, hs2, hw2, hr2⟩ := HR2.out.shape
        cases he1
        cases he2
        have HS1 := Lib.hid hs1
        have HS2 := Lib.hid hs2
        have HW1 := Lib.hid hw1
        have HW2 := Lib.hid hw2
        have HI1 := Lib.hid hr1
        have HI2 := Lib.hid hr2
        clear hs1 hs2 hw1 hw2 hr1 hr2 q0 q1
        unfold maxLen at hm1 hm2
        obtain ⟨n1, hn1⟩ : ∃ n, x.items.length = n := ⟨_, rfl⟩
        obtain ⟨n2, hn2⟩ : ∃ n, y.items.length = n := ⟨_, rfl⟩
        have B0 := st1.B0
        have B1 := st1.B1
        have hbel1 := st1.below
        clear st1
        rw [hn1] at B0 hc1
        rw [hn2] at B1 hc2
        rw [hn1, hn2]
        have HN1 := Lib.hid hn1
        have HN2 := Lib.hid hn2
        clear hn1 hn2
        go_loopw [7, 8] (fun i _ wr => ∃ k : Nat, k ≤ n1 ∧ k ≤ n2 ∧ i = .int .i64 k ∧ cmpL x.items y.items = cmpL (x.items.drop k) (y.items.drop k) ∧ Below w1.heap.size w1 wr) (fun i _ _ => n1 - (intOf i).toNat)
        case atStart => exact ⟨0, Nat.zero_le _, Nat.zero_le _, rfl, rfl, Below.refl _ _⟩
        case round =>
          obtain ⟨k, hk1, hk2, rfl, he, hbel⟩ := hrel
          have HC := Lib.hid (HE4.out.trans he)
          clear he
          have D0 := B0.below hbel B0.lt
          have D1 := B1.below hbel B1.lt
          have hbel2 := hbel1.trans (hbel.mono hbel1.size)
          have q0 := wcell5 D0
          have q1 := wcell5 D1
          by_cases hlt : k < n1
          · by_cases hlt2 : k < n2
            · obtain ⟨b1, o1, rfl, hF1, hb1, hcells1⟩ := HS1.out (by rw [HN1.out]; omega)
              obtain ⟨b2, o2, rfl, hF2, hb2, hcells2⟩ := HS2.out (by rw [HN2.out]; omega)
              have C1 := (hcells1 k (by rw [HN1.out]; exact hlt)).keep (hbel2.block b1 hb1)
              have C2 := (hcells2 k (by rw [HN2.out]; exact hlt2)).keep (hbel2.block b2 hb2)
              have z1 : b1 < wr.heap.size := by have := hbel2.size; omega
              have z2 : b2 < wr.heap.size := by have := hbel2.size; omega
              have HO1' := HW1.out k (by rw [HN1.out]; exact hlt)
              have HO2' := HW2.out k (by rw [HN2.out]; exact hlt2)
              have HR1' := HI1.out k (by rw [HN1.out]; exact hlt)
              have HR2' := HI2.out k (by rw [HN2.out]; exact hlt2)
              have HL := Lib.hid (cmpL_step (l1 := x.items) (l2 := y.items) (k := k) (by rw [HN1.out]; exact hlt) (by rw [HN2.out]; exact hlt2))
              have hm1' : at_ x.items k ∈ x.items := at_mem (by rw [HN1.out]; exact hlt)
              have HCALL := Lib.hid (fun w' (h : Below w.heap.size w w') => HH.out _ hm1' (at_ y.items k) F F' _ _ w' (VAgg.of_at HO1' (HR1'.later h)) (VAgg.of_at HO2' (HR2'.later h)))
              clear hcells1 hcells2 HO1' HO2' HR1' HR2' hm1' HS1 HS2 HW1 HW2 HI1 HI2
              generalize at_ x.items k = xk at *
              generalize at_ y.items k = yk at *
              go_wp2_with fail
              clear q0 q1
              have q0 := fun w' (h : Tab.Ext (fun _ => False) wr.drew w') => wcell5 (D0.drew.ext h id)
              have q1 := fun w' (h : Tab.Ext (fun _ => False) wr.drew w') => wcell5 (D1.drew.ext h id)
              have q2 := fun w' (h : Tab.Ext (fun _ => False) wr.drew w') => C1.keep (h.block b1 z1 id)
              have q3 := fun w' (h : Tab.Ext (fun _ => False) wr.drew w') => C2.keep (h.block b2 z2 id)
              have hbw := Lib.hid (fun w' (h : Tab.Ext (fun _ => False) wr.drew w') => (show Below w.heap.size w w' from hbel2.drew.trans (h.below.mono hbel2.size)))
              unfold CellsV at q2 q3
              clear D0 D1 C1 C2
              refine Tab.wp_region_tab (Tab.Ext fun _ => False) (by kernel_rfl) (by kernel_rfl) (fun _ => Tab.Ext.refl _ _) (fun _ _ _ h k => h.trans k) ?_
              iterate 10 (first | (refine Tab.tab_moveE _ rfl (Tab.silent_true _) (.inl rfl) rfl rfl (fun _ => Tab.Ext.refl _ _) ?_; apply Exists.intro; refine And.intro ?_ ?_; focus (simp [Tab.Env.ev, Tab.Env.get]; rfl)) | (refine Tab.tab_moveE _ rfl (Tab.silent_true _) (.inr rfl) rfl rfl (fun _ => Tab.Ext.refl _ _) ?_; apply Exists.intro; refine And.intro ?_ ?_; focus (simp [Tab.Env.ev, Tab.Env.get]; rfl)) | refine Tab.tab_skip rfl (Tab.silent_true _) rfl ?_ | (refine Tab.tab_repE rfl (Tab.silent_true _) rfl (fun _ _ h => by cases h) rfl (fun _ => Tab.Ext.refl _ _) ?_; apply Exists.intro; refine And.intro (fun l w' _ _ hw => ?_) ?_; focus (go_simp; rfl)) | (refine Tab.tab_repE rfl (Tab.silent_true _) rfl (fun _ _ h => by cases h) rfl (fun _ => Tab.Ext.refl _ _) ?_; apply Exists.intro; refine And.intro (fun l w' hs hc hw => ?_) ?_; focus (go_simp; rfl)))
              refine Tab.tab_call_is (.int .i64 (cmpV xk yk)) rfl rfl rfl cfCompareR rfl (fun l_ w' _ _ _ hw => ?_) ?_
              · show Calls _ _ #[.agg #[.int .i64 xk.k, .int .i64 xk.n, .int .i64 xk.sc, .string xk.s, .slice (iA1 k) xk.items.length (iC1 k)], .agg #[.int .i64 yk.k, .int .i64 yk.n, .int .i64 yk.sc, .string yk.s, .slice (iA2 k) yk.items.length (iC2 k)]] w' _
                refine (HCALL.out w' (hbw.out _ hw)).mono ?_
                rintro e_ w_ ⟨rfl, hb_⟩
                exact ⟨rfl, Tab.Ext.of_below hb_, trivial⟩
              iterate 1 (first | (refine Tab.tab_moveE _ rfl (Tab.silent_true _) (.inl rfl) rfl rfl (fun _ => Tab.Ext.refl _ _) ?_; apply Exists.intro; refine And.intro ?_ ?_; focus (simp [Tab.Env.ev, Tab.Env.get]; rfl)) | (refine Tab.tab_moveE _ rfl (Tab.silent_true _) (.inr rfl) rfl rfl (fun _ => Tab.Ext.refl _ _) ?_; apply Exists.intro; refine And.intro ?_ ?_; focus (simp [Tab.Env.ev, Tab.Env.get]; rfl)) | refine Tab.tab_skip rfl (Tab.silent_true _) rfl ?_ | (refine Tab.tab_repE rfl (Tab.silent_true _) rfl (fun _ _ h => by cases h) rfl (fun _ => Tab.Ext.refl _ _) ?_; apply Exists.intro; refine And.intro (fun l w' _ _ hw => ?_) ?_; focus (go_simp; rfl)) | (refine Tab.tab_repE rfl (Tab.silent_true _) rfl (fun _ _ h => by cases h) rfl (fun _ => Tab.Ext.refl _ _) ?_; apply Exists.intro; refine And.intro (fun l w' hs hc hw => ?_) ?_; focus (go_simp; rfl)))
              intro a_ w_ hw_ hsat_
              refine Tab.fin_of_sat rfl ?_ hsat_
              simp only [Tab.fin, Act.put, List.setIfInBounds_toArray, List.set_cons_succ, List.set_cons_zero]
              have hbel3 := hbw.out _ hw_
              have hbel4 := hbel.drew.trans (hw_.below.mono hbel.size)
              clear hsat_ hw_ q0 q1 q2 q3 HCALL hbw hbel hbel2
              generalize cmpV xk yk = cv at HL ⊢
              by_cases hz : cv = 0
              · have e9 : (cv != 0) = false := by simp [hz]
                have HX := Lib.hid (HL.out.trans (if_neg (by simp [hz])))
                clear hz HL
                go_wp2_with fail
                go_roundw
                case rel => exact ⟨k + 1, hlt, hlt2, by go_num, (HE4.out.symm.trans HC.out).trans HX.out, hbel4⟩
                case measure => simp [intOf]; omega
              · have e9 : (cv != 0) = true := by simp [hz]
                have HX := Lib.hid (HL.out.trans (if_pos hz))
                clear hz HL
                go_wp2_with fail
                go_ret
                exact ⟨ret_int (HC.out.trans HX.out).symm, hbel3⟩
            · have HX := Lib.hid (HC.out.trans (items_end (by rw [HN1.out]; exact hk1) (by rw [HN2.out]; exact hk2) (.inr (by rw [HN2.out]; omega))))
              rw [HN1.out, HN2.out] at HX
              go_wp2_with (go_at_call 150; refine (order_any _ _ _).mono ?_; rintro e w' ⟨rfl, rfl⟩)
              go_ret
              exact ⟨ret_int HX.out.symm, hbel2⟩
          · have HX := Lib.hid (HC.out.trans (items_end (by rw [HN1.out]; exact hk1) (by rw [HN2.out]; exact hk2) (.inl (by rw [HN1.out]; omega))))
            rw [HN1.out, HN2.out] at HX
            go_wp2_with (go_at_call 150; refine (order_any _ _ _).mono ?_; rintro e w' ⟨rfl, rfl⟩)
            go_ret
            exact ⟨ret_int HX.out.symm, hbel2⟩
      · have e8 : (cmpS x.s y.s != 0) = true := by simp [ht]
        have HE4 := Lib.hid (HE3.out.trans (orI_pos ht))
        clear ht HE3
        have hbel1 := st1.below
        go_wp2_with fail
        go_ret
        exact ⟨ret_int HE4.out.symm, hbel1⟩
    · have e10 : (x.n != y.n) = true := by simp [hn]
      clear hn
      go_wp2_with fail
      refine (texts_any x.s y.s HO1.out.s HO2.out.s _).mono ?_
      rintro e w1 ⟨rfl, hb⟩
      have st1 : CmpStart w w1 x y A1 c1 A2 c2 := ⟨st.B0.below hb st.B0.lt, st.B1.below hb st.B1.lt, st.below.trans (hb.mono st.below.size)⟩
      clear st hb
      have q0 := wcell5 st1.B0
      have q1 := wcell5 st1.B1
      by_cases ht : cmpS x.s y.s = 0
      · have e8 : (cmpS x.s y.s != 0) = false := by simp [ht]
        have HE4 := Lib.hid (HE3.out.trans (orI_neg ht))
        clear ht HE3
        go_wp2_with fail
        obtain ⟨A1', c1', iA1, iC1, he1, hc1, hm1, hs1, hw1, hr1⟩ := HR1.out.shape
        obtain ⟨A2', c2', iA2, iC2, he2, hc2, hm2, hs2, hw2, hr2⟩ := HR2.out.shape
        cases he1
        cases he2
        have HS1 := Lib.hid hs1
        have HS2 := Lib.hid hs2
        have HW1 := Lib.hid hw1
        have HW2 := Lib.hid hw2
        have HI1 := Lib.hid hr1
        have HI2 := Lib.hid hr2
        clear hs1 hs2 hw1 hw2 hr1 hr2 q0 q1
        unfold maxLen at hm1 hm2
        obtain ⟨n1, hn1⟩ : ∃ n, x.items.length = n := ⟨_, rfl⟩
        obtain ⟨n2, hn2⟩ : ∃ n, y.items.length = n := ⟨_, rfl⟩
        have B0 := st1.B0
        have B1 := st1.B1
        have hbel1 := st1.below
        clear st1
        rw [hn1] at B0 hc1
        rw [hn2] at B1 hc2
        rw [hn1, hn2]
        have HN1 := Lib.hid hn1
        have HN2 := Lib.hid hn2
        clear hn1 hn2
        go_loopw [7, 8] (fun i _ wr => ∃ k : Nat, k ≤ n1 ∧ k ≤ n2 ∧ i = .int .i64 k ∧ cmpL x.items y.items = cmpL (x.items.drop k) (y.items.drop k) ∧ Below w1.heap.size w1 wr) (fun i _ _ => n1 - (intOf i).toNat)
        case atStart => exact ⟨0, Nat.zero_le _, Nat.zero_le _, rfl, rfl, Below.refl _ _⟩
        case round =>
          obtain ⟨k, hk1, hk2, rfl, he, hbel⟩ := hrel
          have HC := Lib.hid (HE4.out.trans he)
          clear he
          have D0 := B0.below hbel B0.lt
          have D1 := B1.below hbel B1.lt
          have hbel2 := hbel1.trans (hbel.mono hbel1.size)
          have q0 := wcell5 D0
          have q1 := wcell5 D1
          by_cases hlt : k < n1
          · by_cases hlt2 : k < n2
            · obtain ⟨b1, o1, rfl, hF1, hb1, hcells1⟩ := HS1.out (by rw [HN1.out]; omega)
              obtain ⟨b2, o2, rfl, hF2, hb2, hcells2⟩ := HS2.out (by rw [HN2.out]; omega)
              have C1 := (hcells1 k (by rw [HN1.out]; exact hlt)).keep (hbel2.block b1 hb1)
              have C2 := (hcells2 k (by rw [HN2.out]; exact hlt2)).keep (hbel2.block b2 hb2)
              have z1 : b1 < wr.heap.size := by have := hbel2.size; omega
              have z2 : b2 < wr.heap.size := by have := hbel2.size; omega
              have HO1' := HW1.out k (by rw [HN1.out]; exact hlt)
              have HO2' := HW2.out k (by rw [HN2.out]; exact hlt2)
              have HR1' := HI1.out k (by rw [HN1.out]; exact hlt)
              have HR2' := HI2.out k (by rw [HN2.out]; exact hlt2)
              have HL := Lib.hid (cmpL_step (l1 := x.items) (l2 := y.items) (k := k) (by rw [HN1.out]; exact hlt) (by rw [HN2.out]; exact hlt2))
              have hm1' : at_ x.items k ∈ x.items := at_mem (by rw [HN1.out]; exact hlt)
              have HCALL := Lib.hid (fun w' (h : Below w.heap.size w w') => HH.out _ hm1' (at_ y.items k) F F' _ _ w' (VAgg.of_at HO1' (HR1'.later h)) (VAgg.of_at HO2' (HR2'.later h)))
              clear hcells1 hcells2 HO1' HO2' HR1' HR2' hm1' HS1 HS2 HW1 HW2 HI1 HI2
              generalize at_ x.items k = xk at *
              generalize at_ y.items k = yk at *
              go_wp2_with fail
              clear q0 q1
              have q0 := fun w' (h : Tab.Ext (fun _ => False) wr.drew w') => wcell5 (D0.drew.ext h id)
              have q1 := fun w' (h : Tab.Ext (fun _ => False) wr.drew w') => wcell5 (D1.drew.ext h id)
              have q2 := fun w' (h : Tab.Ext (fun _ => False) wr.drew w') => C1.keep (h.block b1 z1 id)
              have q3 := fun w' (h : Tab.Ext (fun _ => False) wr.drew w') => C2.keep (h.block b2 z2 id)
              have hbw := Lib.hid (fun w' (h : Tab.Ext (fun _ => False) wr.drew w') => (show Below w.heap.size w w' from hbel2.drew.trans (h.below.mono hbel2.size)))
              unfold CellsV at q2 q3
              clear D0 D1 C1 C2
              refine Tab.wp_region_tab (Tab.Ext fun _ => False) (by kernel_rfl) (by kernel_rfl) (fun _ => Tab.Ext.refl _ _) (fun _ _ _ h k => h.trans k) ?_
              iterate 10 (first | (refine Tab.tab_moveE _ rfl (Tab.silent_true _) (.inl rfl) rfl rfl (fun _ => Tab.Ext.refl _ _) ?_; apply Exists.intro; refine And.intro ?_ ?_; focus (simp [Tab.Env.ev, Tab.Env.get]; rfl)) | (refine Tab.tab_moveE _ rfl (Tab.silent_true _) (.inr rfl) rfl rfl (fun _ => Tab.Ext.refl _ _) ?_; apply Exists.intro; refine And.intro ?_ ?_; focus (simp [Tab.Env.ev, Tab.Env.get]; rfl)) | refine Tab.tab_skip rfl (Tab.silent_true _) rfl ?_ | (refine Tab.tab_repE rfl (Tab.silent_true _) rfl (fun _ _ h => by cases h) rfl (fun _ => Tab.Ext.refl _ _) ?_; apply Exists.intro; refine And.intro (fun l w' _ _ hw => ?_) ?_; focus (go_simp; rfl)) | (refine Tab.tab_repE rfl (Tab.silent_true _) rfl (fun _ _ h => by cases h) rfl (fun _ => Tab.Ext.refl _ _) ?_; apply Exists.intro; refine And.intro (fun l w' hs hc hw => ?_) ?_; focus (go_simp; rfl)))
              refine Tab.tab_call_is (.int .i64 (cmpV xk yk)) rfl rfl rfl cfCompareR rfl (fun l_ w' _ _ _ hw => ?_) ?_
              · show Calls _ _ #[.agg #[.int .i64 xk.k, .int .i64 xk.n, .int .i64 xk.sc, .string xk.s, .slice (iA1 k) xk.items.length (iC1 k)], .agg #[.int .i64 yk.k, .int .i64 yk.n, .int .i64 yk.sc, .string yk.s, .slice (iA2 k) yk.items.length (iC2 k)]] w' _
                refine (HCALL.out w' (hbw.out _ hw)).mono ?_
                rintro e_ w_ ⟨rfl, hb_⟩
                exact ⟨rfl, Tab.Ext.of_below hb_, trivial⟩
              iterate 1 (first | (refine Tab.tab_moveE _ rfl (Tab.silent_true _) (.inl rfl) rfl rfl (fun _ => Tab.Ext.refl _ _) ?_; apply Exists.intro; refine And.intro ?_ ?_; focus (simp [Tab.Env.ev, Tab.Env.get]; rfl)) | (refine Tab.tab_moveE _ rfl (Tab.silent_true _) (.inr rfl) rfl rfl (fun _ => Tab.Ext.refl _ _) ?_; apply Exists.intro; refine And.intro ?_ ?_; focus (simp [Tab.Env.ev, Tab.Env.get]; rfl)) | refine Tab.tab_skip rfl (Tab.silent_true _) rfl ?_ | (refine Tab.tab_repE rfl (Tab.silent_true _) rfl (fun _ _ h => by cases h) rfl (fun _ => Tab.Ext.refl _ _) ?_; apply Exists.intro; refine And.intro (fun l w' _ _ hw => ?_) ?_; focus (go_simp; rfl)) | (refine Tab.tab_repE rfl (Tab.silent_true _) rfl (fun _ _ h => by cases h) rfl (fun _ => Tab.Ext.refl _ _) ?_; apply Exists.intro; refine And.intro (fun l w' hs hc hw => ?_) ?_; focus (go_simp; rfl)))
              intro a_ w_ hw_ hsat_
              refine Tab.fin_of_sat rfl ?_ hsat_
              simp only [Tab.fin, Act.put, List.setIfInBounds_toArray, List.set_cons_succ, List.set_cons_zero]
              have hbel3 := hbw.out _ hw_
              have hbel4 := hbel.drew.trans (hw_.below.mono hbel.size)
              clear hsat_ hw_ q0 q1 q2 q3 HCALL hbw hbel hbel2
              generalize cmpV xk yk = cv at HL ⊢
              by_cases hz : cv = 0
              · have e9 : (cv != 0) = false := by simp [hz]
                have HX := Lib.hid (HL.out.trans (if_neg (by simp [hz])))
                clear hz HL
                go_wp2_with fail
                go_roundw
                case rel => exact ⟨k + 1, hlt, hlt2, by go_num, (HE4.out.symm.trans HC.out).trans HX.out, hbel4⟩
                case measure => simp [intOf]; omega
              · have e9 : (cv != 0) = true := by simp [hz]
                have HX := Lib.hid (HL.out.trans (if_pos hz))
                clear hz HL
                go_wp2_with fail
                go_ret
                exact ⟨ret_int (HC.out.trans HX.out).symm, hbel3⟩
            · have HX := Lib.hid (HC.out.trans (items_end (by rw [HN1.out]; exact hk1) (by rw [HN2.out]; exact hk2) (.inr (by rw [HN2.out]; omega))))
              rw [HN1.out, HN2.out] at HX
              go_wp2_with (go_at_call 150; refine (order_any _ _ _).mono ?_; rintro e w' ⟨rfl, rfl⟩)
              go_ret
              exact ⟨ret_int HX.out.symm, hbel2⟩
          · have HX := Lib.hid (HC.out.trans (items_end (by rw [HN1.out]; exact hk1) (by rw [HN2.out]; exact hk2) (.inl (by rw [HN1.out]; omega))))
            rw [HN1.out, HN2.out] at HX
            go_wp2_with (go_at_call 150; refine (order_any _ _ _).mono ?_; rintro e w' ⟨rfl, rfl⟩)
            go_ret
            exact ⟨ret_int HX.out.symm, hbel2⟩
      · have e8 : (cmpS x.s y.s != 0) = true := by simp [ht]
        have HE4 := Lib.hid (HE3.out.trans (orI_pos ht))
        clear ht HE3
        have hbel1 := st1.below
        go_wp2_with fail
        go_ret
        exact ⟨ret_int HE4.out.symm, hbel1⟩
  · have e6 : (decV x y != 0) = true := by simp [hd]
    have HE3 := Lib.hid (HE.out.trans (orI_pos hd))
    clear hd HE HDS
    have hbel1 := st.below
    go_wp2_with fail
    go_ret
    exact ⟨ret_int HE3.out.symm, hbel1⟩
end

theorem compareRAt (x y : VD) : CompareRAt x y := by
  intro F F' va vb w h1 h2
  obtain ⟨A1, c1, rfl, ho1, hr1⟩ := h1
  obtain ⟨A2, c2, rfl, ho2, hr2⟩ := h2
  have H : ∀ x', x' ∈ x.items → ∀ y', CompareRAt x' y' := fun x' hx' y' => compareRAt x' y'
  by_cases hk : x.k = y.k
  · by_cases h0 : x.k = 0
    · exact compareR_null F F' x y w A1 A2 c1 c2 ho1 ho2 hr1 hr2 H hk h0
    · by_cases h3 : x.k = 3
      · exact compareR_decimal F F' x y w A1 A2 c1 c2 ho1 ho2 hr1 hr2 H hk h3
      · exact compareR_plain F F' x y w A1 A2 c1 c2 ho1 ho2 hr1 hr2 H hk h0 h3
  · exact compareR_kinds F F' x y w A1 A2 c1 c2 ho1 ho2 hr1 hr2 H hk
termination_by SizeOf.sizeOf x
decreasing_by
  have := List.sizeOf_lt_of_mem hx'
  cases x
  simp only [VD.items] at this
  simp
  omega
end Go.Proofs.YthejmnmkbldacaaGreatDoor
