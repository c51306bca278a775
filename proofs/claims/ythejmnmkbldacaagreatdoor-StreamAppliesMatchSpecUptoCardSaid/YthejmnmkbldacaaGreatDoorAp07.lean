/-
  What is proved: what package value's Compare computes, of values of every size. Conditions: none.
-/
import Derived.Test.YthejmnmkbldacaaGreatDoorAp06
set_option linter.all false
namespace Go.Proofs.YthejmnmkbldacaaGreatDoor
open Go.RowKit
attribute [local go_sem] Tab.Env.ev Tab.Env.get

theorem cfWithin : ∀ (args : Array Value) (w : World), (callFunc 183 args).run Tryz.prog w = .ok (.enter 183 args) w := fun _ _ => by simp [go_sem]
theorem cfScaled : ∀ (args : Array Value) (w : World), (callFunc 170 args).run Tryz.prog w = .ok (.enter 170 args) w := fun _ _ => by simp [go_sem]
theorem cfWideCompare : ∀ (args : Array Value) (w : World), (callFunc 185 args).run Tryz.prog w = .ok (.enter 185 args) w := fun _ _ => by simp [go_sem]
theorem cfRest : ∀ (args : Array Value) (w : World), (callFunc 186 args).run Tryz.prog w = .ok (.enter 186 args) w := fun _ _ => by simp [go_sem]

theorem signed_scaled (n sc : Int) : signed (decide (n < 0)) (n.natAbs * 10 ^ (12 - sc).toNat) = n * 10 ^ (12 - sc).toNat := by
  unfold signed
  by_cases h : n < 0
  · rw [if_pos (by simp [h]), ← Int.neg_mul]
    congr 1
    omega
  · rw [if_neg (by simp [h])]
    congr 1
    omega
theorem scaled_small (n : Int) (h : I64 n) (d : Nat) (hd : d ≤ 12) : (n.natAbs : Int) * 10 ^ d ≤ 9223372036854775808000000000000 := by
  have h1 : (10 : Int) ^ d ≤ 10 ^ 12 := by exact_mod_cast Nat.pow_le_pow_right (by omega) hd
  have := Int.mul_le_mul (show (n.natAbs : Int) ≤ 9223372036854775808 by unfold I64 at h; omega) h1 (by exact_mod_cast Nat.zero_le _) (by omega)
  omega

theorem wrap_sc {d : Nat} (h : d ≤ 12) : IntKind.i64.wrap (12 - (12 - d)) = d := by
  rw [show (12 : Int) - (12 - d) = d by omega]
  exact IntWalk.i64_in _ (by omega)
theorem signed_scaled' (n : Int) (d : Nat) : signed (decide (n < 0)) (n.natAbs * 10 ^ d) = n * 10 ^ d := by
  have := signed_scaled n (12 - d)
  rwa [show ((12 : Int) - (12 - d)).toNat = d by omega] at this

/-- what stands in memory when Compare begins to look at its values -/
structure CmpStart (w W : World) (x y : VD) (A1 : Option Addr) (c1 : Nat) (A2 : Option Addr) (c2 : Nat) : Prop where
  B0 : Blk W w.heap.size 33 [.int .i64 x.k, .int .i64 x.n, .int .i64 x.sc, .string x.s, .slice A1 x.items.length c1]
  B1 : Blk W (w.heap.size + 1) 33 [.int .i64 y.k, .int .i64 y.n, .int .i64 y.sc, .string y.s, .slice A2 y.items.length c2]
  below : Below w.heap.size w W
theorem cmpStart (w : World) (x y : VD) (A1 : Option Addr) (c1 : Nat) (A2 : Option Addr) (c2 : Nat) :
    CmpStart w ((w.alloc (.cells #[.int .i64 x.k, .int .i64 x.n, .int .i64 x.sc, .string x.s, .slice A1 x.items.length c1] 33)).alloc (.cells #[.int .i64 y.k, .int .i64 y.n, .int .i64 y.sc, .string y.s, .slice A2 y.items.length c2] 33)) x y A1 c1 A2 c2 where
  B0 := (Blk.new w _ _).alloc _
  B1 := by
    have h := Blk.new (w.alloc (.cells #[.int .i64 x.k, .int .i64 x.n, .int .i64 x.sc, .string x.s, .slice A1 x.items.length c1] 33)) 33 [.int .i64 y.k, .int .i64 y.n, .int .i64 y.sc, .string y.s, .slice A2 y.items.length c2]
    simpa using h
  below := (below_new w _).alloc (by simp) _

def tx (x : VD) (A1 : Option Addr) (c1 : Nat) : Value := .agg #[.int .i64 x.k, .int .i64 x.n, .int .i64 x.sc, .string x.s, .slice A1 x.items.length c1]

section
variable (F F' : Nat → Prop) (x y : VD) (w : World) (A1 A2 : Option Addr) (c1 c2 : Nat) (ho1 : x.ok) (ho2 : y.ok) (hr1 : RI w F (.slice A1 x.items.length c1) x.items) (hr2 : RI w F' (.slice A2 y.items.length c2) y.items) (H : ∀ x', x' ∈ x.items → ∀ y', CompareAt x' y')
include ho1 ho2 hr1 hr2 H

set_option maxHeartbeats 2000000 in
theorem compare_kinds (hk : x.k ≠ y.k) :
    Calls Tryz.prog 147 #[.agg #[.int .i64 x.k, .int .i64 x.n, .int .i64 x.sc, .string x.s, .slice A1 x.items.length c1], .agg #[.int .i64 y.k, .int .i64 y.n, .int .i64 y.sc, .string y.s, .slice A2 y.items.length c2]] w fun e w' => e = .returned (.int .i64 (cmpV x y)) ∧ Below w.heap.size w w' := by
  have HE := Lib.hid (cmpV_eq x y)
  have e1 : (x.k != y.k) = true := by simp [hk]
  have HK := Lib.hid hk
  clear hk H hr1 hr2 ho1 ho2
  by_cases hx : x.k = 0
  · have HX := Lib.hid hx
    have e2 : (x.k == 0) = true := by simp [hx]
    clear hx
    go_enter Tryz.func147, Tryz.ntmps147
    go_wp2_with fail
    go_ret
    exact ⟨ret_int (by rw [HE.out, if_pos HK.out, if_pos HX.out]), ((below_new w _).alloc (by simp) _)⟩
  · have HX := Lib.hid hx
    have e2 : (x.k == 0) = false := by simp [hx]
    clear hx
    by_cases hy : y.k = 0
    · have HY := Lib.hid hy
      have e3 : (y.k == 0) = true := by simp [hy]
      clear hy
      go_enter Tryz.func147, Tryz.ntmps147
      go_wp2_with fail
      go_ret
      exact ⟨ret_int (by rw [HE.out, if_pos HK.out, if_neg HX.out, if_pos HY.out]), ((below_new w _).alloc (by simp) _)⟩
    · have HY := Lib.hid hy
      have e3 : (y.k == 0) = false := by simp [hy]
      clear hy
      go_enter Tryz.func147, Tryz.ntmps147
      go_wp2_with (go_at_call 182; refine (cmpInt_any _ _ _).mono ?_; rintro e w' ⟨rfl, rfl⟩)
      go_ret
      exact ⟨ret_int (by rw [HE.out, if_pos HK.out, if_neg HX.out, if_neg HY.out]), ((below_new w _).alloc (by simp) _)⟩

set_option maxHeartbeats 2000000 in
theorem compare_null (hk : x.k = y.k) (h0 : x.k = 0) :
    Calls Tryz.prog 147 #[.agg #[.int .i64 x.k, .int .i64 x.n, .int .i64 x.sc, .string x.s, .slice A1 x.items.length c1], .agg #[.int .i64 y.k, .int .i64 y.n, .int .i64 y.sc, .string y.s, .slice A2 y.items.length c2]] w fun e w' => e = .returned (.int .i64 (cmpV x y)) ∧ Below w.heap.size w w' := by
  have HE := Lib.hid (show cmpV x y = 0 by rw [cmpV_eq, if_neg (by simp [hk]), if_pos h0])
  have e1 : (x.k != y.k) = false := by simp [hk]
  have e2 : (x.k == 0) = true := by simp [h0]
  clear hk h0 H hr1 hr2 ho1 ho2
  go_enter Tryz.func147, Tryz.ntmps147
  go_wp2_with fail
  go_ret
  exact ⟨ret_int HE.out.symm, ((below_new w _).alloc (by simp) _)⟩

set_option maxHeartbeats 2000000 in
theorem compare_plain (hk : x.k = y.k) (h0 : x.k ≠ 0) (h3 : x.k ≠ 3) :
    Calls Tryz.prog 147 #[.agg #[.int .i64 x.k, .int .i64 x.n, .int .i64 x.sc, .string x.s, .slice A1 x.items.length c1], .agg #[.int .i64 y.k, .int .i64 y.n, .int .i64 y.sc, .string y.s, .slice A2 y.items.length c2]] w fun e w' => e = .returned (.int .i64 (cmpV x y)) ∧ Below w.heap.size w w' := by
  have HE := Lib.hid (show cmpV x y = orI (cmpI x.n y.n) (restV x y) by rw [cmpV_eq, if_neg (by simp [hk]), if_neg h0, if_neg h3])
  have e1 : (x.k != y.k) = false := by simp [hk]
  have e2 : (x.k == 0) = false := by simp [h0]
  have e3 : (x.k == 3) = false := by simp [h3]
  have HH := Lib.hid H
  have HR1 := Lib.hid hr1
  have HR2 := Lib.hid hr2
  have HO1 := Lib.hid ho1
  have HO2 := Lib.hid ho2
  clear hk h0 h3 H hr1 hr2 ho1 ho2
  go_enter Tryz.func147, Tryz.ntmps147
  have st := cmpStart w x y A1 c1 A2 c2
  go_wp2_with fail
  generalize (w.alloc (.cells #[.int .i64 x.k, .int .i64 x.n, .int .i64 x.sc, .string x.s, .slice A1 x.items.length c1] 33)).alloc (.cells #[.int .i64 y.k, .int .i64 y.n, .int .i64 y.sc, .string y.s, .slice A2 y.items.length c2] 33) = W at st ⊢
  have hbw := Lib.hid (fun w' (h : Tab.Ext (fun _ => False) W.drew w') => (show Below w.heap.size w w' from st.below.drew.trans (h.below.mono st.below.size)))
  have q0 := fun w' (h : Tab.Ext (fun _ => False) W.drew w') => wcell5 (st.B0.drew.ext h id)
  have q1 := fun w' (h : Tab.Ext (fun _ => False) W.drew w') => wcell5 (st.B1.drew.ext h id)
  refine Tab.wp_region_tab_tail 8 (Tab.Ext fun _ => False) (by kernel_rfl) (by kernel_rfl) (by kernel_rfl) (fun _ => Tab.Ext.refl _ _) (fun _ _ _ h k => h.trans k) ?_
  iterate 4 (first | (refine Tab.tab_moveE _ rfl (Tab.silent_true _) (.inl rfl) rfl rfl (fun _ => Tab.Ext.refl _ _) ?_; apply Exists.intro; refine And.intro ?_ ?_; focus (simp [Tab.Env.ev, Tab.Env.get]; rfl)) | (refine Tab.tab_moveE _ rfl (Tab.silent_true _) (.inr rfl) rfl rfl (fun _ => Tab.Ext.refl _ _) ?_; apply Exists.intro; refine And.intro ?_ ?_; focus (simp [Tab.Env.ev, Tab.Env.get]; rfl)) | refine Tab.tab_skip rfl (Tab.silent_true _) rfl ?_ | (refine Tab.tab_repE rfl (Tab.silent_true _) rfl (fun _ _ h => by cases h) rfl (fun _ => Tab.Ext.refl _ _) ?_; apply Exists.intro; refine And.intro (fun l w' _ _ hw => ?_) ?_; focus (go_simp; rfl)) | (refine Tab.tab_repE rfl (Tab.silent_true _) rfl (fun _ _ h => by cases h) rfl (fun _ => Tab.Ext.refl _ _) ?_; apply Exists.intro; refine And.intro (fun l w' hs hc hw => ?_) ?_; focus (go_simp; rfl)))
  refine Tab.tab_call_is (.int .i64 (cmpI x.n y.n)) rfl rfl rfl cfCmpInt rfl (fun l_ w' _ _ _ hw => ?_) ?_
  · show Calls _ _ #[.int .i64 x.n, .int .i64 y.n] w' _
    refine (cmpInt_any _ _ _).mono ?_
    rintro e_ w_ ⟨rfl, rfl⟩
    exact ⟨rfl, Tab.Ext.refl _ _, trivial⟩
  iterate 2 (first | (refine Tab.tab_moveE _ rfl (Tab.silent_true _) (.inl rfl) rfl rfl (fun _ => Tab.Ext.refl _ _) ?_; apply Exists.intro; refine And.intro ?_ ?_; focus (simp [Tab.Env.ev, Tab.Env.get]; rfl)) | (refine Tab.tab_moveE _ rfl (Tab.silent_true _) (.inr rfl) rfl rfl (fun _ => Tab.Ext.refl _ _) ?_; apply Exists.intro; refine And.intro ?_ ?_; focus (simp [Tab.Env.ev, Tab.Env.get]; rfl)) | refine Tab.tab_skip rfl (Tab.silent_true _) rfl ?_ | (refine Tab.tab_repE rfl (Tab.silent_true _) rfl (fun _ _ h => by cases h) rfl (fun _ => Tab.Ext.refl _ _) ?_; apply Exists.intro; refine And.intro (fun l w' _ _ hw => ?_) ?_; focus (go_simp; rfl)) | (refine Tab.tab_repE rfl (Tab.silent_true _) rfl (fun _ _ h => by cases h) rfl (fun _ => Tab.Ext.refl _ _) ?_; apply Exists.intro; refine And.intro (fun l w' hs hc hw => ?_) ?_; focus (go_simp; rfl)))
  refine Tab.tab_call_is (.int .i64 (restV x y)) rfl rfl rfl cfRest rfl (fun l_ w' _ _ _ hw => ?_) ?_
  · show Calls _ _ #[tx x A1 c1, tx y A2 c2] w' _
    refine (rest_any F F' _ _ x y w' ⟨_, _, rfl, HO1.out, HR1.out.later (hbw.out _ hw)⟩ ⟨_, _, rfl, HO2.out, HR2.out.later (hbw.out _ hw)⟩ HH.out).mono ?_
    rintro e_ w_ ⟨rfl, hb_⟩
    exact ⟨rfl, Tab.Ext.of_below hb_, trivial⟩
  intro a_ w_ hw_ hsat_
  refine Tab.fin_of_sat rfl ?_ hsat_
  simp only [Tab.fin, Act.put, List.setIfInBounds_toArray, List.set_cons_succ, List.set_cons_zero, List.drop_succ_cons, List.drop_zero]
  have hbel' := hbw.out _ hw_
  clear hsat_ hw_ q0 q1 hbw st
  go_wp2_with fail
  refine (or2_any _ _ w_ _ rfl).mono ?_
  rintro e w2 ⟨rfl, rfl⟩
  go_wp2_with fail
  go_ret
  exact ⟨ret_int HE.out.symm, hbel'.alloc hbel'.size _⟩

set_option maxHeartbeats 1000000 in
theorem compare_decimal (hk : x.k = y.k) (h3 : x.k = 3) :
    Calls Tryz.prog 147 #[.agg #[.int .i64 x.k, .int .i64 x.n, .int .i64 x.sc, .string x.s, .slice A1 x.items.length c1], .agg #[.int .i64 y.k, .int .i64 y.n, .int .i64 y.sc, .string y.s, .slice A2 y.items.length c2]] w fun e w' => e = .returned (.int .i64 (cmpV x y)) ∧ Below w.heap.size w w' := by
  have HE := Lib.hid (show cmpV x y = (if scaleOk x.sc && scaleOk y.sc then orI (cmpI (x.n * 10 ^ (12 - x.sc).toNat) (y.n * 10 ^ (12 - y.sc).toNat)) (restV x y)
         else if scaleOk x.sc then -1 else if scaleOk y.sc then 1 else orI (cmpI x.n y.n) (restV x y)) by rw [cmpV_eq, if_neg (by simp [hk]), if_neg (by omega), if_pos h3])
  have e1 : (x.k != y.k) = false := by simp [hk]
  have e2 : (x.k == 0) = false := by simp [h3]
  have e3 : (x.k == 3) = true := by simp [h3]
  have HH := Lib.hid H
  have HR1 := Lib.hid hr1
  have HR2 := Lib.hid hr2
  have HO1 := Lib.hid ho1
  have HO2 := Lib.hid ho2
  clear hk h3 H hr1 hr2 ho1 ho2
  go_enter Tryz.func147, Tryz.ntmps147
  have st := cmpStart w x y A1 c1 A2 c2
  go_wp2_with fail
  generalize (w.alloc (.cells #[.int .i64 x.k, .int .i64 x.n, .int .i64 x.sc, .string x.s, .slice A1 x.items.length c1] 33)).alloc (.cells #[.int .i64 y.k, .int .i64 y.n, .int .i64 y.sc, .string y.s, .slice A2 y.items.length c2] 33) = W at st ⊢
  have q0 := fun w' (h : Tab.Ext (fun _ => False) W.drew w') => wcell5 (st.B0.drew.ext h id)
  have q1 := fun w' (h : Tab.Ext (fun _ => False) W.drew w') => wcell5 (st.B1.drew.ext h id)
  refine Tab.wp_region_tab (Tab.Ext fun _ => False) (by kernel_rfl) (by kernel_rfl) (fun _ => Tab.Ext.refl _ _) (fun _ _ _ h k => h.trans k) ?_
  iterate 2 (first | (refine Tab.tab_moveE _ rfl (Tab.silent_true _) (.inl rfl) rfl rfl (fun _ => Tab.Ext.refl _ _) ?_; apply Exists.intro; refine And.intro ?_ ?_; focus (simp [Tab.Env.ev, Tab.Env.get]; rfl)) | (refine Tab.tab_moveE _ rfl (Tab.silent_true _) (.inr rfl) rfl rfl (fun _ => Tab.Ext.refl _ _) ?_; apply Exists.intro; refine And.intro ?_ ?_; focus (simp [Tab.Env.ev, Tab.Env.get]; rfl)) | refine Tab.tab_skip rfl (Tab.silent_true _) rfl ?_ | (refine Tab.tab_repE rfl (Tab.silent_true _) rfl (fun _ _ h => by cases h) rfl (fun _ => Tab.Ext.refl _ _) ?_; apply Exists.intro; refine And.intro (fun l w' _ _ hw => ?_) ?_; focus (go_simp; rfl)) | (refine Tab.tab_repE rfl (Tab.silent_true _) rfl (fun _ _ h => by cases h) rfl (fun _ => Tab.Ext.refl _ _) ?_; apply Exists.intro; refine And.intro (fun l w' hs hc hw => ?_) ?_; focus (go_simp; rfl)))
  refine Tab.tab_call_is (.bool (scaleOk x.sc)) rfl rfl rfl cfWithin rfl (fun l_ w' _ _ _ hw => ?_) ?_
  · show Calls _ _ #[.int .i64 x.sc, .int .i64 0, .int .i64 12] w' _
    refine (within_any _ _ _ _).mono ?_
    rintro e_ w_ ⟨rfl, rfl⟩
    exact ⟨rfl, Tab.Ext.refl _ _, trivial⟩
  iterate 2 (first | (refine Tab.tab_moveE _ rfl (Tab.silent_true _) (.inl rfl) rfl rfl (fun _ => Tab.Ext.refl _ _) ?_; apply Exists.intro; refine And.intro ?_ ?_; focus (simp [Tab.Env.ev, Tab.Env.get]; rfl)) | (refine Tab.tab_moveE _ rfl (Tab.silent_true _) (.inr rfl) rfl rfl (fun _ => Tab.Ext.refl _ _) ?_; apply Exists.intro; refine And.intro ?_ ?_; focus (simp [Tab.Env.ev, Tab.Env.get]; rfl)) | refine Tab.tab_skip rfl (Tab.silent_true _) rfl ?_ | (refine Tab.tab_repE rfl (Tab.silent_true _) rfl (fun _ _ h => by cases h) rfl (fun _ => Tab.Ext.refl _ _) ?_; apply Exists.intro; refine And.intro (fun l w' _ _ hw => ?_) ?_; focus (go_simp; rfl)) | (refine Tab.tab_repE rfl (Tab.silent_true _) rfl (fun _ _ h => by cases h) rfl (fun _ => Tab.Ext.refl _ _) ?_; apply Exists.intro; refine And.intro (fun l w' hs hc hw => ?_) ?_; focus (go_simp; rfl)))
  refine Tab.tab_call_is (.bool (scaleOk y.sc)) rfl rfl rfl cfWithin rfl (fun l_ w' _ _ _ hw => ?_) ?_
  · show Calls _ _ #[.int .i64 y.sc, .int .i64 0, .int .i64 12] w' _
    refine (within_any _ _ _ _).mono ?_
    rintro e_ w_ ⟨rfl, rfl⟩
    exact ⟨rfl, Tab.Ext.refl _ _, trivial⟩
  iterate 2 (first | (refine Tab.tab_moveE _ rfl (Tab.silent_true _) (.inl rfl) rfl rfl (fun _ => Tab.Ext.refl _ _) ?_; apply Exists.intro; refine And.intro ?_ ?_; focus (simp [Tab.Env.ev, Tab.Env.get]; rfl)) | (refine Tab.tab_moveE _ rfl (Tab.silent_true _) (.inr rfl) rfl rfl (fun _ => Tab.Ext.refl _ _) ?_; apply Exists.intro; refine And.intro ?_ ?_; focus (simp [Tab.Env.ev, Tab.Env.get]; rfl)) | refine Tab.tab_skip rfl (Tab.silent_true _) rfl ?_ | (refine Tab.tab_repE rfl (Tab.silent_true _) rfl (fun _ _ h => by cases h) rfl (fun _ => Tab.Ext.refl _ _) ?_; apply Exists.intro; refine And.intro (fun l w' _ _ hw => ?_) ?_; focus (go_simp; rfl)) | (refine Tab.tab_repE rfl (Tab.silent_true _) rfl (fun _ _ h => by cases h) rfl (fun _ => Tab.Ext.refl _ _) ?_; apply Exists.intro; refine And.intro (fun l w' hs hc hw => ?_) ?_; focus (go_simp; rfl)))
  intro a_ w_ hw_ hsat_
  refine Tab.fin_of_sat rfl ?_ hsat_
  simp only [Tab.fin, Act.put, List.setIfInBounds_toArray, List.set_cons_succ, List.set_cons_zero, List.drop_succ_cons, List.drop_zero]
  have st : CmpStart w w_ x y A1 c1 A2 c2 := ⟨st.B0.drew.ext hw_ id, st.B1.drew.ext hw_ id, st.below.drew.trans (hw_.below.mono st.below.size)⟩
  rename CmpStart w W x y A1 c1 A2 c2 => st0
  clear hsat_ hw_ q0 q1 st0 W
  by_cases hx : scaleOk x.sc = true
  · rw [hx] at HE ⊢
    by_cases hy : scaleOk y.sc = true
    · rw [hy] at HE ⊢
      go_wp2_with fail
      have hbw := Lib.hid (fun w' (h : Tab.Ext (fun _ => False) w_.drew w') => (show Below w.heap.size w w' from st.below.drew.trans (h.below.mono st.below.size)))
      have q0 := fun w' (h : Tab.Ext (fun _ => False) w_.drew w') => wcell5 (st.B0.drew.ext h id)
      have q1 := fun w' (h : Tab.Ext (fun _ => False) w_.drew w') => wcell5 (st.B1.drew.ext h id)
      obtain ⟨d, hd, hsc⟩ : ∃ d : Nat, d ≤ 12 ∧ x.sc = 12 - d := ⟨(12 - x.sc).toNat, by unfold scaleOk at hx; simp at hx; omega⟩
      obtain ⟨d', hd', hsc'⟩ : ∃ d : Nat, d ≤ 12 ∧ y.sc = 12 - d := ⟨(12 - y.sc).toNat, by unfold scaleOk at hy; simp at hy; omega⟩
      have HSC := Lib.hid hsc
      have HSC' := Lib.hid hsc'
      clear hsc hsc'
      have hm1 := scaled_small x.n HO1.out.n d hd
      have hm2 := scaled_small y.n HO2.out.n d' hd'
      have hs1 := signed_scaled' x.n d
      have hs2 := signed_scaled' y.n d'
      obtain ⟨m1, hm1e⟩ : ∃ m : Int, x.n.natAbs * 10 ^ d = m := ⟨_, rfl⟩
      obtain ⟨m2, hm2e⟩ : ∃ m : Int, y.n.natAbs * 10 ^ d' = m := ⟨_, rfl⟩
      rw [hm1e] at hm1 hs1
      rw [hm2e] at hm2 hs2
      have hm : m1 + m2 < 115792089237316195423570985008687907853269984665640564039457584007913129639936 := by omega
      clear hm1 hm2
      have HREST := Lib.hid (fun w' (h : Below w.heap.size w w') => rest_any F F' (tx x A1 c1) (tx y A2 c2) x y w' ⟨_, _, rfl, HO1.out, HR1.out.later h⟩ ⟨_, _, rfl, HO2.out, HR2.out.later h⟩ HH.out)
      refine Tab.wp_region_tab_tail 16 (Tab.Ext fun _ => False) (by kernel_rfl) (by kernel_rfl) (by kernel_rfl) (fun _ => Tab.Ext.refl _ _) (fun _ _ _ h k => h.trans k) ?_
      iterate 4 (first | (refine Tab.tab_moveE _ rfl (Tab.silent_true _) (.inl rfl) rfl rfl (fun _ => Tab.Ext.refl _ _) ?_; apply Exists.intro; refine And.intro ?_ ?_; focus (simp [Tab.Env.ev, Tab.Env.get]; rfl)) | (refine Tab.tab_moveE _ rfl (Tab.silent_true _) (.inr rfl) rfl rfl (fun _ => Tab.Ext.refl _ _) ?_; apply Exists.intro; refine And.intro ?_ ?_; focus (simp [Tab.Env.ev, Tab.Env.get]; rfl)) | refine Tab.tab_skip rfl (Tab.silent_true _) rfl ?_ | (refine Tab.tab_repE rfl (Tab.silent_true _) rfl (fun _ _ h => by cases h) rfl (fun _ => Tab.Ext.refl _ _) ?_; apply Exists.intro; refine And.intro (fun l w' _ _ hw => ?_) ?_; focus (go_simp; rfl)) | (refine Tab.tab_repE rfl (Tab.silent_true _) rfl (fun _ _ h => by cases h) rfl (fun _ => Tab.Ext.refl _ _) ?_; apply Exists.intro; refine And.intro (fun l w' hs hc hw => ?_) ?_; focus (go_simp; rfl)))
      refine Tab.tab_rep (v := .int .i64 d) rfl (Tab.silent_true _) rfl (fun _ _ h => by cases h) rfl (fun _ => Tab.Ext.refl _ _) (fun l w' _ _ hw => ?_) ?_
      · rw [HSC.out]
        go_simp
        exact wrap_sc hd
      refine Tab.tab_callk (.ty fun v _ => IsWide v (decide (x.n < 0)) m1) rfl (Tab.stable_pure _ _) rfl rfl cfScaled rfl (fun l w' _ _ _ hw => ?_) ?_
      · show Calls _ _ #[.int .i64 x.n, .int .i64 d] w' _
        refine (scaled_any x.n HO1.out.n d hd w').mono ?_
        rintro e w2 ⟨v, rfl, hv, hb⟩
        rw [hm1e] at hv
        exact ⟨v, rfl, hv, Tab.Ext.of_below hb, trivial⟩
      iterate 4 (first | (refine Tab.tab_moveE _ rfl (Tab.silent_true _) (.inl rfl) rfl rfl (fun _ => Tab.Ext.refl _ _) ?_; apply Exists.intro; refine And.intro ?_ ?_; focus (simp [Tab.Env.ev, Tab.Env.get]; rfl)) | (refine Tab.tab_moveE _ rfl (Tab.silent_true _) (.inr rfl) rfl rfl (fun _ => Tab.Ext.refl _ _) ?_; apply Exists.intro; refine And.intro ?_ ?_; focus (simp [Tab.Env.ev, Tab.Env.get]; rfl)) | refine Tab.tab_skip rfl (Tab.silent_true _) rfl ?_ | (refine Tab.tab_repE rfl (Tab.silent_true _) rfl (fun _ _ h => by cases h) rfl (fun _ => Tab.Ext.refl _ _) ?_; apply Exists.intro; refine And.intro (fun l w' _ _ hw => ?_) ?_; focus (go_simp; rfl)) | (refine Tab.tab_repE rfl (Tab.silent_true _) rfl (fun _ _ h => by cases h) rfl (fun _ => Tab.Ext.refl _ _) ?_; apply Exists.intro; refine And.intro (fun l w' hs hc hw => ?_) ?_; focus (go_simp; rfl)))
      refine Tab.tab_rep (v := .int .i64 d') rfl (Tab.silent_true _) rfl (fun _ _ h => by cases h) rfl (fun _ => Tab.Ext.refl _ _) (fun l w' _ _ hw => ?_) ?_
      · rw [HSC'.out]
        go_simp
        exact wrap_sc hd'
      refine Tab.tab_callk (.ty fun v _ => IsWide v (decide (y.n < 0)) m2) rfl (Tab.stable_pure _ _) rfl rfl cfScaled rfl (fun l w' _ _ _ hw => ?_) ?_
      · show Calls _ _ #[.int .i64 y.n, .int .i64 d'] w' _
        refine (scaled_any y.n HO2.out.n d' hd' w').mono ?_
        rintro e w2 ⟨v, rfl, hv, hb⟩
        rw [hm2e] at hv
        exact ⟨v, rfl, hv, Tab.Ext.of_below hb, trivial⟩
      refine Tab.tab_call (.is (.int .i64 (cmpI (x.n * 10 ^ d) (y.n * 10 ^ d')))) rfl (Tab.stable_is _) rfl rfl cfWideCompare (fun l ρ w' _ _ _ hw hx => ?_) ?_
      · have e4 := hx (.tmp 45) (by simp)
        simp only [Tab.Env.tyd, Tab.Env.knows, Tab.Env.get, Nat.reduceEqDiff, if_true, if_false, Tab.Ty.holds] at e4
        have e5 := hx (.tmp 51) (by simp)
        simp only [Tab.Env.tyd, Tab.Env.knows, Tab.Env.get, Nat.reduceEqDiff, if_true, if_false, Tab.Ty.holds] at e5
        simp only [List.map_toArray, List.map_cons, List.map_nil]
        refine (compare_any _ _ _ _ m1 m2 e4 e5 hm w').mono ?_
        rintro e w2 ⟨rfl, hb⟩
        rw [hs1, hs2]
        exact ⟨_, rfl, rfl, Tab.Ext.of_below hb, trivial⟩
      iterate 2 (first | (refine Tab.tab_moveE _ rfl (Tab.silent_true _) (.inl rfl) rfl rfl (fun _ => Tab.Ext.refl _ _) ?_; apply Exists.intro; refine And.intro ?_ ?_; focus (simp [Tab.Env.ev, Tab.Env.get]; rfl)) | (refine Tab.tab_moveE _ rfl (Tab.silent_true _) (.inr rfl) rfl rfl (fun _ => Tab.Ext.refl _ _) ?_; apply Exists.intro; refine And.intro ?_ ?_; focus (simp [Tab.Env.ev, Tab.Env.get]; rfl)) | refine Tab.tab_skip rfl (Tab.silent_true _) rfl ?_ | (refine Tab.tab_repE rfl (Tab.silent_true _) rfl (fun _ _ h => by cases h) rfl (fun _ => Tab.Ext.refl _ _) ?_; apply Exists.intro; refine And.intro (fun l w' _ _ hw => ?_) ?_; focus (go_simp; rfl)) | (refine Tab.tab_repE rfl (Tab.silent_true _) rfl (fun _ _ h => by cases h) rfl (fun _ => Tab.Ext.refl _ _) ?_; apply Exists.intro; refine And.intro (fun l w' hs hc hw => ?_) ?_; focus (go_simp; rfl)))
      refine Tab.tab_call_is (.int .i64 (restV x y)) rfl rfl rfl cfRest rfl (fun l_ w' _ _ _ hw => ?_) ?_
      · show Calls _ _ #[tx x A1 c1, tx y A2 c2] w' _
        refine (HREST.out w' (hbw.out _ hw)).mono ?_
        rintro e_ w_ ⟨rfl, hb_⟩
        exact ⟨rfl, Tab.Ext.of_below hb_, trivial⟩
      have HE2 := Lib.hid (show cmpV x y = orI (cmpI (x.n * 10 ^ d) (y.n * 10 ^ d')) (restV x y) by
        rw [HE.out]
        simp only [Bool.and_self, if_true]
        rw [HSC.out, HSC'.out, show ((12 : Int) - (12 - d)).toNat = d by omega, show ((12 : Int) - (12 - d')).toNat = d' by omega])
      intro a_ w_ hw_ hsat_
      refine Tab.fin_of_sat rfl ?_ hsat_
      simp only [Tab.fin, Act.put, List.setIfInBounds_toArray, List.set_cons_succ, List.set_cons_zero, List.drop_succ_cons, List.drop_zero]
      intro v51 _ v45 _
      have hbel' := hbw.out _ hw_
      clear hsat_ hw_ q0 q1 hbw st HE HSC HSC' hx hy
      go_wp2_with fail
      refine (or2_any _ _ w_ _ rfl).mono ?_
      rintro e w2 ⟨rfl, rfl⟩
      go_wp2_with fail
      go_ret
      exact ⟨ret_int HE2.out.symm, hbel'.alloc hbel'.size _⟩
    · have hy' : scaleOk y.sc = false := by simpa using hy
      rw [hy'] at HE ⊢
      have hbel' := st.below
      clear hy
      go_wp2_with fail
      go_ret
      exact ⟨ret_int HE.out.symm, hbel'⟩
  · have hx' : scaleOk x.sc = false := by simpa using hx
    rw [hx'] at HE ⊢
    clear hx
    by_cases hy : scaleOk y.sc = true
    · rw [hy] at HE ⊢
      have hbel' := st.below
      go_wp2_with fail
      go_ret
      exact ⟨ret_int HE.out.symm, hbel'⟩
    · have hy' : scaleOk y.sc = false := by simpa using hy
      rw [hy'] at HE ⊢
      clear hy
      go_wp2_with fail
      have hbw := Lib.hid (fun w' (h : Tab.Ext (fun _ => False) w_.drew w') => (show Below w.heap.size w w' from st.below.drew.trans (h.below.mono st.below.size)))
      have q0 := fun w' (h : Tab.Ext (fun _ => False) w_.drew w') => wcell5 (st.B0.drew.ext h id)
      have q1 := fun w' (h : Tab.Ext (fun _ => False) w_.drew w') => wcell5 (st.B1.drew.ext h id)
      refine Tab.wp_region_tab_tail 8 (Tab.Ext fun _ => False) (by kernel_rfl) (by kernel_rfl) (by kernel_rfl) (fun _ => Tab.Ext.refl _ _) (fun _ _ _ h k => h.trans k) ?_
      iterate 4 (first | (refine Tab.tab_moveE _ rfl (Tab.silent_true _) (.inl rfl) rfl rfl (fun _ => Tab.Ext.refl _ _) ?_; apply Exists.intro; refine And.intro ?_ ?_; focus (simp [Tab.Env.ev, Tab.Env.get]; rfl)) | (refine Tab.tab_moveE _ rfl (Tab.silent_true _) (.inr rfl) rfl rfl (fun _ => Tab.Ext.refl _ _) ?_; apply Exists.intro; refine And.intro ?_ ?_; focus (simp [Tab.Env.ev, Tab.Env.get]; rfl)) | refine Tab.tab_skip rfl (Tab.silent_true _) rfl ?_ | (refine Tab.tab_repE rfl (Tab.silent_true _) rfl (fun _ _ h => by cases h) rfl (fun _ => Tab.Ext.refl _ _) ?_; apply Exists.intro; refine And.intro (fun l w' _ _ hw => ?_) ?_; focus (go_simp; rfl)) | (refine Tab.tab_repE rfl (Tab.silent_true _) rfl (fun _ _ h => by cases h) rfl (fun _ => Tab.Ext.refl _ _) ?_; apply Exists.intro; refine And.intro (fun l w' hs hc hw => ?_) ?_; focus (go_simp; rfl)))
      refine Tab.tab_call_is (.int .i64 (cmpI x.n y.n)) rfl rfl rfl cfCmpInt rfl (fun l_ w' _ _ _ hw => ?_) ?_
      · show Calls _ _ #[.int .i64 x.n, .int .i64 y.n] w' _
        refine (cmpInt_any _ _ _).mono ?_
        rintro e_ w_ ⟨rfl, rfl⟩
        exact ⟨rfl, Tab.Ext.refl _ _, trivial⟩
      iterate 2 (first | (refine Tab.tab_moveE _ rfl (Tab.silent_true _) (.inl rfl) rfl rfl (fun _ => Tab.Ext.refl _ _) ?_; apply Exists.intro; refine And.intro ?_ ?_; focus (simp [Tab.Env.ev, Tab.Env.get]; rfl)) | (refine Tab.tab_moveE _ rfl (Tab.silent_true _) (.inr rfl) rfl rfl (fun _ => Tab.Ext.refl _ _) ?_; apply Exists.intro; refine And.intro ?_ ?_; focus (simp [Tab.Env.ev, Tab.Env.get]; rfl)) | refine Tab.tab_skip rfl (Tab.silent_true _) rfl ?_ | (refine Tab.tab_repE rfl (Tab.silent_true _) rfl (fun _ _ h => by cases h) rfl (fun _ => Tab.Ext.refl _ _) ?_; apply Exists.intro; refine And.intro (fun l w' _ _ hw => ?_) ?_; focus (go_simp; rfl)) | (refine Tab.tab_repE rfl (Tab.silent_true _) rfl (fun _ _ h => by cases h) rfl (fun _ => Tab.Ext.refl _ _) ?_; apply Exists.intro; refine And.intro (fun l w' hs hc hw => ?_) ?_; focus (go_simp; rfl)))
      refine Tab.tab_call_is (.int .i64 (restV x y)) rfl rfl rfl cfRest rfl (fun l_ w' _ _ _ hw => ?_) ?_
      · show Calls _ _ #[tx x A1 c1, tx y A2 c2] w' _
        refine (rest_any F F' _ _ x y w' ⟨_, _, rfl, HO1.out, HR1.out.later (hbw.out _ hw)⟩ ⟨_, _, rfl, HO2.out, HR2.out.later (hbw.out _ hw)⟩ HH.out).mono ?_
        rintro e_ w_ ⟨rfl, hb_⟩
        exact ⟨rfl, Tab.Ext.of_below hb_, trivial⟩
      intro a_ w2_ hw2_ hsat_
      refine Tab.fin_of_sat rfl ?_ hsat_
      simp only [Tab.fin, Act.put, List.setIfInBounds_toArray, List.set_cons_succ, List.set_cons_zero, List.drop_succ_cons, List.drop_zero]
      have hbel' := hbw.out _ hw2_
      clear hsat_ hw2_ q0 q1 hbw st
      go_wp2_with fail
      refine (or2_any _ _ w2_ _ rfl).mono ?_
      rintro e w2 ⟨rfl, rfl⟩
      go_wp2_with fail
      go_ret
      exact ⟨ret_int HE.out.symm, hbel'.alloc hbel'.size _⟩
end

theorem compareAt (x y : VD) : CompareAt x y := by
  intro F F' va vb w h1 h2
  obtain ⟨A1, c1, rfl, ho1, hr1⟩ := h1
  obtain ⟨A2, c2, rfl, ho2, hr2⟩ := h2
  have H : ∀ x', x' ∈ x.items → ∀ y', CompareAt x' y' := fun x' hx' y' => compareAt x' y'
  by_cases hk : x.k = y.k
  · by_cases h0 : x.k = 0
    · exact compare_null F F' x y w A1 A2 c1 c2 ho1 ho2 hr1 hr2 H hk h0
    · by_cases h3 : x.k = 3
      · exact compare_decimal F F' x y w A1 A2 c1 c2 ho1 ho2 hr1 hr2 H hk h3
      · exact compare_plain F F' x y w A1 A2 c1 c2 ho1 ho2 hr1 hr2 H hk h0 h3
  · exact compare_kinds F F' x y w A1 A2 c1 c2 ho1 ho2 hr1 hr2 H hk
termination_by SizeOf.sizeOf x
decreasing_by
  have := List.sizeOf_lt_of_mem hx'
  cases x
  simp only [VD.items] at this
  simp
  omega
end Go.Proofs.YthejmnmkbldacaaGreatDoor
