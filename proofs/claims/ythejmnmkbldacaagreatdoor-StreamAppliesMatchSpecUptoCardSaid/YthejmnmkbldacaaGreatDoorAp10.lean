/-
  What is proved: what the reference's Compare computes, of values of every size. Conditions: none.
-/
import Derived.Test.YthejmnmkbldacaaGreatDoorAp09
set_option linter.all false
namespace Go.Proofs.YthejmnmkbldacaaGreatDoor
open Go.RowKit
attribute [local go_sem] Tab.Env.ev Tab.Env.get

set_option maxHeartbeats 400000 in
theorem order_any (a b : Int) (w : World) : Calls Tryz.prog 150 #[.int .i64 a, .int .i64 b] w fun e w' => e = .returned (.int .i64 (cmpI a b)) ∧ w = w' := by
  go_enter Tryz.func150, Tryz.ntmps150
  go_wp2
  · have h : a < b := by assumption
    go_ret
    exact ⟨ret_int (cmpI_lt h).symm, rfl⟩
  · have h : b < a := by assumption
    go_ret
    exact ⟨ret_int (cmpI_gt h).symm, rfl⟩
  · have h : b ≤ a := by assumption
    have h' : a ≤ b := by assumption
    go_ret
    exact ⟨ret_int (cmpI_eq (by omega)).symm, rfl⟩

set_option maxHeartbeats 400000 in
theorem withinR_any (n low high : Int) (w : World) : Calls Tryz.prog 153 #[.int .i64 n, .int .i64 low, .int .i64 high] w fun e w' => e = .returned (.bool (decide (low ≤ n ∧ n ≤ high))) ∧ w = w' := by
  by_cases h : low ≤ n
  · by_cases h2 : n ≤ high
    · rw [decide_eq_true (And.intro h h2)]
      go_enter Tryz.func153, Tryz.ntmps153
      go_wp2
      go_ret
      exact ⟨rfl, rfl⟩
    · rw [decide_eq_false (fun h' => h2 h'.2)]
      have h3 : high < n := by omega
      clear h2
      go_enter Tryz.func153, Tryz.ntmps153
      go_wp2
      go_ret
      exact ⟨ret_bool (decide_eq_false (by omega)), rfl⟩
  · rw [decide_eq_false (fun h' => h h'.1)]
    have h3 : n < low := by omega
    clear h
    go_enter Tryz.func153, Tryz.ntmps153
    go_wp2
    go_ret
    exact ⟨rfl, rfl⟩

theorem cfOrder : ∀ (args : Array Value) (w : World), (callFunc 150 args).run Tryz.prog w = .ok (.enter 150 args) w := fun _ _ => by simp [go_sem]

theorem bytes_step {a b : ByteArray} {k : Nat} (h1 : k < a.size) (h2 : k < b.size) :
    (((a[k].toNat : Int) = b[k].toNat) → cmpBytes (a.data.toList.drop k) (b.data.toList.drop k) = cmpBytes (a.data.toList.drop (k + 1)) (b.data.toList.drop (k + 1))) ∧
    (((a[k].toNat : Int) ≠ b[k].toNat) → cmpBytes (a.data.toList.drop k) (b.data.toList.drop k) = cmpI a[k].toNat b[k].toNat) := by
  have l1 : k < a.data.toList.length := by simpa using h1
  have l2 : k < b.data.toList.length := by simpa using h2
  have e1 : a.data.toList[k] = a[k] := by simp [ByteArray.getElem_eq_getElem_data]
  have e2 : b.data.toList[k] = b[k] := by simp [ByteArray.getElem_eq_getElem_data]
  rw [List.drop_eq_getElem_cons l1, List.drop_eq_getElem_cons l2, e1, e2, cmpBytes]
  have hlt : ∀ x y : UInt8, x < y ↔ x.toNat < y.toNat := fun x y => UInt8.lt_iff_toNat_lt
  constructor
  · intro h
    rw [if_neg (by rw [hlt]; omega), if_neg (by rw [hlt]; omega)]
  · intro h
    rcases Nat.lt_or_ge a[k].toNat b[k].toNat with h3 | h3
    · rw [if_pos ((hlt _ _).2 h3), cmpI_lt (by omega)]
    · rw [if_neg (by rw [hlt]; omega), if_pos ((hlt _ _).2 (by omega)), cmpI_gt (by omega)]

theorem bytes_end {a b : ByteArray} {k : Nat} (h1 : k ≤ a.size) (h2 : k ≤ b.size) (h : k = a.size ∨ k = b.size) : cmpBytes (a.data.toList.drop k) (b.data.toList.drop k) = cmpI a.size b.size := by
  have l1 : a.data.toList.length = a.size := by simp
  have l2 : b.data.toList.length = b.size := by simp
  by_cases ha : k = a.size
  · rw [List.drop_of_length_le (by omega)]
    by_cases hb : k = b.size
    · rw [List.drop_of_length_le (by omega), cmpI_eq (by omega)]
      rfl
    · rw [List.drop_eq_getElem_cons (by omega), cmpI_lt (by omega)]
      rfl
  · rw [List.drop_eq_getElem_cons (by omega), List.drop_of_length_le (l := b.data.toList) (by omega), cmpI_gt (by omega)]
    rfl

set_option maxHeartbeats 1000000 in
theorem texts_any (a b : ByteArray) (ha : a.size ≤ maxLen) (hb : b.size ≤ maxLen) (w : World) : Calls Tryz.prog 152 #[.string a, .string b] w fun e w' => e = .returned (.int .i64 (cmpS a b)) ∧ Below w.heap.size w w' := by
  unfold maxLen at ha hb
  go_enter Tryz.func152, Tryz.ntmps152
  go_wp2_with fail
  go_loopw [5] (fun i wr => ∃ k : Nat, k ≤ a.size ∧ k ≤ b.size ∧ i = .int .i64 k ∧ cmpS a b = cmpBytes (a.data.toList.drop k) (b.data.toList.drop k) ∧ Below w.heap.size w wr) (fun i _ => a.size - (intOf i).toNat)
  case atStart => exact ⟨0, Nat.zero_le _, Nat.zero_le _, rfl, rfl, Below.refl _ _⟩
  case round =>
    obtain ⟨k, hk1, hk2, rfl, he, hbel⟩ := hrel
    have HE := Lib.hid he
    clear he
    by_cases h1 : k < a.size
    · by_cases h2 : k < b.size
      · have HS := Lib.hid (bytes_step h1 h2)
        by_cases hxy : (a[k].toNat : Int) = b[k].toNat
        · have e2 : ((a[k].toNat : Int) != b[k].toNat) = false := by simp only [bne_eq_false_iff_eq]; exact hxy
          have HN := Lib.hid (HE.out.trans (HS.out.1 hxy))
          clear hxy HE HS
          go_wp2_with fail
          go_quiet (fail)
          go_wp2_with fail
          go_roundw
          case rel => exact ⟨k + 1, h1, h2, by go_num, HN.out, below_drewN hbel _⟩
          case measure => simp [intOf]; omega
        · have e2 : ((a[k].toNat : Int) != b[k].toNat) = true := by simp only [bne_iff_ne]; exact hxy
          have HN := Lib.hid (HE.out.trans (HS.out.2 hxy))
          clear hxy HE HS
          go_wp2_with fail
          go_quiet (fail)
          go_wp2_with fail
          have hbel2 := below_drewN hbel nq
          generalize wr.drewN nq = wq at *
          have hx := UInt8.toNat_lt a[k]
          have hy := UInt8.toNat_lt b[k]
          obtain ⟨x, ex⟩ : ∃ x : Nat, a[k].toNat = x := ⟨_, rfl⟩
          obtain ⟨y, ey⟩ : ∃ y : Nat, b[k].toNat = y := ⟨_, rfl⟩
          rw [ex] at hx
          rw [ey] at hy
          rw [ex, ey] at HN
          have wx := IntWalk.i64_in (x : Int) (by omega)
          have wy := IntWalk.i64_in (y : Int) (by omega)
          refine Tab.wp_region_tab (Tab.Ext fun _ => False) (by kernel_rfl) (by kernel_rfl) (fun _ => Tab.Ext.refl _ _) (fun _ _ _ h k => h.trans k) ?_
          iterate 8 (first | (refine Tab.tab_moveE _ rfl (Tab.silent_true _) (.inl rfl) rfl rfl (fun _ => Tab.Ext.refl _ _) ?_; apply Exists.intro; refine And.intro ?_ ?_; focus (simp [Tab.Env.ev, Tab.Env.get]; rfl)) | (refine Tab.tab_moveE _ rfl (Tab.silent_true _) (.inr rfl) rfl rfl (fun _ => Tab.Ext.refl _ _) ?_; apply Exists.intro; refine And.intro ?_ ?_; focus (simp [Tab.Env.ev, Tab.Env.get]; rfl)) | refine Tab.tab_skip rfl (Tab.silent_true _) rfl ?_ | (refine Tab.tab_repE rfl (Tab.silent_true _) rfl (fun _ _ h => by cases h) rfl (fun _ => Tab.Ext.refl _ _) ?_; apply Exists.intro; refine And.intro (fun l w' _ _ hw => ?_) ?_; focus (go_simp; rfl)) | (refine Tab.tab_repE rfl (Tab.silent_true _) rfl (fun _ _ h => by cases h) rfl (fun _ => Tab.Ext.refl _ _) ?_; apply Exists.intro; refine And.intro (fun l w' hs hc hw => ?_) ?_; focus (go_simp; rfl)))
          refine Tab.tab_call_is (.int .i64 (cmpI x y)) rfl rfl rfl cfOrder rfl (fun l_ w' _ _ _ hw => ?_) ?_
          · show Calls _ _ #[.int .i64 x, .int .i64 y] w' _
            refine (order_any _ _ _).mono ?_
            rintro e_ w_ ⟨rfl, rfl⟩
            exact ⟨rfl, Tab.Ext.refl _ _, trivial⟩
          iterate 1 (first | (refine Tab.tab_moveE _ rfl (Tab.silent_true _) (.inl rfl) rfl rfl (fun _ => Tab.Ext.refl _ _) ?_; apply Exists.intro; refine And.intro ?_ ?_; focus (simp [Tab.Env.ev, Tab.Env.get]; rfl)) | (refine Tab.tab_moveE _ rfl (Tab.silent_true _) (.inr rfl) rfl rfl (fun _ => Tab.Ext.refl _ _) ?_; apply Exists.intro; refine And.intro ?_ ?_; focus (simp [Tab.Env.ev, Tab.Env.get]; rfl)) | refine Tab.tab_skip rfl (Tab.silent_true _) rfl ?_ | (refine Tab.tab_repE rfl (Tab.silent_true _) rfl (fun _ _ h => by cases h) rfl (fun _ => Tab.Ext.refl _ _) ?_; apply Exists.intro; refine And.intro (fun l w' _ _ hw => ?_) ?_; focus (go_simp; rfl)) | (refine Tab.tab_repE rfl (Tab.silent_true _) rfl (fun _ _ h => by cases h) rfl (fun _ => Tab.Ext.refl _ _) ?_; apply Exists.intro; refine And.intro (fun l w' hs hc hw => ?_) ?_; focus (go_simp; rfl)))
          intro a_ w_ hw_ hsat_
          refine Tab.fin_of_sat rfl ?_ hsat_
          simp only [Tab.fin, Act.put, List.setIfInBounds_toArray, List.set_cons_succ, List.set_cons_zero]
          go_wp2_with fail
          go_ret
          exact ⟨ret_int HN.out.symm, hbel2.drew.trans (hw_.below.mono hbel2.size)⟩
      · have HN := Lib.hid (HE.out.trans (bytes_end hk1 hk2 (.inr (by omega))))
        clear HE
        go_wp2_with (go_at_call 150; refine (order_any _ _ _).mono ?_; rintro e w' ⟨rfl, rfl⟩)
        go_ret
        exact ⟨ret_int HN.out.symm, hbel⟩
    · have HN := Lib.hid (HE.out.trans (bytes_end hk1 hk2 (.inl (by omega))))
      clear HE
      go_wp2_with (go_at_call 150; refine (order_any _ _ _).mono ?_; rintro e w' ⟨rfl, rfl⟩)
      go_ret
      exact ⟨ret_int HN.out.symm, hbel⟩

theorem cfWithinR : ∀ (args : Array Value) (w : World), (callFunc 153 args).run Tryz.prog w = .ok (.enter 153 args) w := fun _ _ => by simp [go_sem]
theorem cfTwelve : ∀ (args : Array Value) (w : World), (callFunc 190 args).run Tryz.prog w = .ok (.enter 190 args) w := fun _ _ => by simp [go_sem]
theorem cfCompareWide : ∀ (args : Array Value) (w : World), (callFunc 189 args).run Tryz.prog w = .ok (.enter 189 args) w := fun _ _ => by simp [go_sem]

/-- what decimals says of two values -/
def decV (x y : VD) : Int :=
  if scaleOk x.sc != scaleOk y.sc then (if scaleOk x.sc then -1 else 1)
  else if scaleOk x.sc then orI (cmpI (x.n * 10 ^ (12 - x.sc).toNat) (y.n * 10 ^ (12 - y.sc).toNat)) (cmpI x.sc y.sc) else orI (cmpI x.n y.n) (cmpI x.sc y.sc)
theorem orI_pos {a b : Int} (h : a ≠ 0) : orI a b = a := if_pos h
theorem orI_neg {a b : Int} (h : a = 0) : orI a b = b := by unfold orI; rw [if_neg (by simp [h])]
theorem cmpI_ne {a b : Int} (h : a ≠ b) : cmpI a b ≠ 0 := by
  rcases Int.lt_or_le a b with h1 | h1
  · rw [cmpI_lt h1]; decide
  · rw [cmpI_gt (by omega)]; decide

set_option maxHeartbeats 2000000 in
theorem decimals_any (x y : VD) (ho1 : x.ok) (ho2 : y.ok) (A1 A2 : Option Addr) (c1 c2 : Nat) (w : World) :
    Calls Tryz.prog 151 #[tx x A1 c1, tx y A2 c2] w fun e w' => e = .returned (.int .i64 (decV x y)) ∧ Below w.heap.size w w' := by
  unfold tx
  have HO1 := Lib.hid ho1
  have HO2 := Lib.hid ho2
  have HE := Lib.hid (show decV x y = if scaleOk x.sc != scaleOk y.sc then (if scaleOk x.sc then -1 else 1)
    else if scaleOk x.sc then orI (cmpI (x.n * 10 ^ (12 - x.sc).toNat) (y.n * 10 ^ (12 - y.sc).toNat)) (cmpI x.sc y.sc) else orI (cmpI x.n y.n) (cmpI x.sc y.sc) from rfl)
  clear ho1 ho2
  go_enter Tryz.func151, Tryz.ntmps151
  have st := cmpStart w x y A1 c1 A2 c2
  go_wp2_with fail
  generalize (w.alloc (.cells #[.int .i64 x.k, .int .i64 x.n, .int .i64 x.sc, .string x.s, .slice A1 x.items.length c1] 33)).alloc (.cells #[.int .i64 y.k, .int .i64 y.n, .int .i64 y.sc, .string y.s, .slice A2 y.items.length c2] 33) = W at st ⊢
  have q0 := fun w' (h : Tab.Ext (fun _ => False) W.drew w') => wcell5 (st.B0.drew.ext h id)
  have q1 := fun w' (h : Tab.Ext (fun _ => False) W.drew w') => wcell5 (st.B1.drew.ext h id)
  refine Tab.wp_region_tab (Tab.Ext fun _ => False) (by kernel_rfl) (by kernel_rfl) (fun _ => Tab.Ext.refl _ _) (fun _ _ _ h k => h.trans k) ?_
  iterate 2 (first | (refine Tab.tab_moveE _ rfl (Tab.silent_true _) (.inl rfl) rfl rfl (fun _ => Tab.Ext.refl _ _) ?_; apply Exists.intro; refine And.intro ?_ ?_; focus (simp [Tab.Env.ev, Tab.Env.get]; rfl)) | (refine Tab.tab_moveE _ rfl (Tab.silent_true _) (.inr rfl) rfl rfl (fun _ => Tab.Ext.refl _ _) ?_; apply Exists.intro; refine And.intro ?_ ?_; focus (simp [Tab.Env.ev, Tab.Env.get]; rfl)) | refine Tab.tab_skip rfl (Tab.silent_true _) rfl ?_ | (refine Tab.tab_repE rfl (Tab.silent_true _) rfl (fun _ _ h => by cases h) rfl (fun _ => Tab.Ext.refl _ _) ?_; apply Exists.intro; refine And.intro (fun l w' _ _ hw => ?_) ?_; focus (go_simp; rfl)) | (refine Tab.tab_repE rfl (Tab.silent_true _) rfl (fun _ _ h => by cases h) rfl (fun _ => Tab.Ext.refl _ _) ?_; apply Exists.intro; refine And.intro (fun l w' hs hc hw => ?_) ?_; focus (go_simp; rfl)))
  refine Tab.tab_call_is (.bool (scaleOk x.sc)) rfl rfl rfl cfWithinR rfl (fun l_ w' _ _ _ hw => ?_) ?_
  · show Calls _ _ #[.int .i64 x.sc, .int .i64 0, .int .i64 12] w' _
    refine (withinR_any _ _ _ _).mono ?_
    rintro e_ w_ ⟨rfl, rfl⟩
    exact ⟨rfl, Tab.Ext.refl _ _, trivial⟩
  iterate 2 (first | (refine Tab.tab_moveE _ rfl (Tab.silent_true _) (.inl rfl) rfl rfl (fun _ => Tab.Ext.refl _ _) ?_; apply Exists.intro; refine And.intro ?_ ?_; focus (simp [Tab.Env.ev, Tab.Env.get]; rfl)) | (refine Tab.tab_moveE _ rfl (Tab.silent_true _) (.inr rfl) rfl rfl (fun _ => Tab.Ext.refl _ _) ?_; apply Exists.intro; refine And.intro ?_ ?_; focus (simp [Tab.Env.ev, Tab.Env.get]; rfl)) | refine Tab.tab_skip rfl (Tab.silent_true _) rfl ?_ | (refine Tab.tab_repE rfl (Tab.silent_true _) rfl (fun _ _ h => by cases h) rfl (fun _ => Tab.Ext.refl _ _) ?_; apply Exists.intro; refine And.intro (fun l w' _ _ hw => ?_) ?_; focus (go_simp; rfl)) | (refine Tab.tab_repE rfl (Tab.silent_true _) rfl (fun _ _ h => by cases h) rfl (fun _ => Tab.Ext.refl _ _) ?_; apply Exists.intro; refine And.intro (fun l w' hs hc hw => ?_) ?_; focus (go_simp; rfl)))
  refine Tab.tab_call_is (.bool (scaleOk y.sc)) rfl rfl rfl cfWithinR rfl (fun l_ w' _ _ _ hw => ?_) ?_
  · show Calls _ _ #[.int .i64 y.sc, .int .i64 0, .int .i64 12] w' _
    refine (withinR_any _ _ _ _).mono ?_
    rintro e_ w_ ⟨rfl, rfl⟩
    exact ⟨rfl, Tab.Ext.refl _ _, trivial⟩
  iterate 2 (first | (refine Tab.tab_moveE _ rfl (Tab.silent_true _) (.inl rfl) rfl rfl (fun _ => Tab.Ext.refl _ _) ?_; apply Exists.intro; refine And.intro ?_ ?_; focus (simp [Tab.Env.ev, Tab.Env.get]; rfl)) | (refine Tab.tab_moveE _ rfl (Tab.silent_true _) (.inr rfl) rfl rfl (fun _ => Tab.Ext.refl _ _) ?_; apply Exists.intro; refine And.intro ?_ ?_; focus (simp [Tab.Env.ev, Tab.Env.get]; rfl)) | refine Tab.tab_skip rfl (Tab.silent_true _) rfl ?_ | (refine Tab.tab_repE rfl (Tab.silent_true _) rfl (fun _ _ h => by cases h) rfl (fun _ => Tab.Ext.refl _ _) ?_; apply Exists.intro; refine And.intro (fun l w' _ _ hw => ?_) ?_; focus (go_simp; rfl)) | (refine Tab.tab_repE rfl (Tab.silent_true _) rfl (fun _ _ h => by cases h) rfl (fun _ => Tab.Ext.refl _ _) ?_; apply Exists.intro; refine And.intro (fun l w' hs hc hw => ?_) ?_; focus (go_simp; rfl)))
  intro a_ w_ hw_ hsat_
  refine Tab.fin_of_sat rfl ?_ hsat_
  simp only [Tab.fin, Act.put, List.setIfInBounds_toArray, List.set_cons_succ, List.set_cons_zero]
  have st : CmpStart w w_ x y A1 c1 A2 c2 := ⟨st.B0.drew.ext hw_ id, st.B1.drew.ext hw_ id, st.below.drew.trans (hw_.below.mono st.below.size)⟩
  rename CmpStart w W x y A1 c1 A2 c2 => st0
  clear hsat_ hw_ q0 q1 st0 W
  by_cases hx : scaleOk x.sc = true
  · rw [hx] at HE ⊢
    by_cases hy : scaleOk y.sc = true
    · rw [hy] at HE ⊢
      go_wp2_with fail
      have q0 := fun w' (h : Tab.Ext (fun _ => False) w_.drew w') => wcell5 (st.B0.drew.ext h id)
      have q1 := fun w' (h : Tab.Ext (fun _ => False) w_.drew w') => wcell5 (st.B1.drew.ext h id)
      obtain ⟨d, hd, hsc⟩ : ∃ d : Nat, d ≤ 12 ∧ x.sc = 12 - d := ⟨(12 - x.sc).toNat, by unfold scaleOk at hx; simp at hx; omega⟩
      obtain ⟨d', hd', hsc'⟩ : ∃ d : Nat, d ≤ 12 ∧ y.sc = 12 - d := ⟨(12 - y.sc).toNat, by unfold scaleOk at hy; simp at hy; omega⟩
      have HSC := Lib.hid hsc
      have HSC' := Lib.hid hsc'
      have HE2 := Lib.hid (show decV x y = orI (cmpI (x.n * 10 ^ d) (y.n * 10 ^ d')) (cmpI x.sc y.sc) by
        rw [HE.out]
        simp only [bne_self_eq_false, Bool.false_eq_true, if_false, if_true]
        rw [HSC.out, HSC'.out, show ((12 : Int) - (12 - d)).toNat = d by omega, show ((12 : Int) - (12 - d')).toNat = d' by omega])
      clear hsc hsc' HE hx hy
      refine Tab.wp_region_tab (Tab.Ext fun _ => False) (by kernel_rfl) (by kernel_rfl) (fun _ => Tab.Ext.refl _ _) (fun _ _ _ h k => h.trans k) ?_
      iterate 1 (first | (refine Tab.tab_moveE _ rfl (Tab.silent_true _) (.inl rfl) rfl rfl (fun _ => Tab.Ext.refl _ _) ?_; apply Exists.intro; refine And.intro ?_ ?_; focus (simp [Tab.Env.ev, Tab.Env.get]; rfl)) | (refine Tab.tab_moveE _ rfl (Tab.silent_true _) (.inr rfl) rfl rfl (fun _ => Tab.Ext.refl _ _) ?_; apply Exists.intro; refine And.intro ?_ ?_; focus (simp [Tab.Env.ev, Tab.Env.get]; rfl)) | refine Tab.tab_skip rfl (Tab.silent_true _) rfl ?_ | (refine Tab.tab_repE rfl (Tab.silent_true _) rfl (fun _ _ h => by cases h) rfl (fun _ => Tab.Ext.refl _ _) ?_; apply Exists.intro; refine And.intro (fun l w' _ _ hw => ?_) ?_; focus (go_simp; rfl)) | (refine Tab.tab_repE rfl (Tab.silent_true _) rfl (fun _ _ h => by cases h) rfl (fun _ => Tab.Ext.refl _ _) ?_; apply Exists.intro; refine And.intro (fun l w' hs hc hw => ?_) ?_; focus (go_simp; rfl)))
      refine Tab.tab_callk (.ty fun v w => RV 0 w v (x.n * 10 ^ d)) rfl (fun v w w' hE h => h.ext hE) rfl rfl cfTwelve rfl (fun l w' _ _ _ hw => ?_) ?_
      · show Calls _ _ #[tx x A1 c1] w' _
        refine (twelve_any x HO1.out A1 c1 d hd HSC.out w').mono ?_
        rintro e w2 ⟨v, rfl, ⟨ds, hv, hr⟩, hb⟩
        exact ⟨v, rfl, ⟨ds, hv.base (Nat.zero_le _), hr⟩, Tab.Ext.of_below hb, trivial⟩
      iterate 1 (first | (refine Tab.tab_moveE _ rfl (Tab.silent_true _) (.inl rfl) rfl rfl (fun _ => Tab.Ext.refl _ _) ?_; apply Exists.intro; refine And.intro ?_ ?_; focus (simp [Tab.Env.ev, Tab.Env.get]; rfl)) | (refine Tab.tab_moveE _ rfl (Tab.silent_true _) (.inr rfl) rfl rfl (fun _ => Tab.Ext.refl _ _) ?_; apply Exists.intro; refine And.intro ?_ ?_; focus (simp [Tab.Env.ev, Tab.Env.get]; rfl)) | refine Tab.tab_skip rfl (Tab.silent_true _) rfl ?_ | (refine Tab.tab_repE rfl (Tab.silent_true _) rfl (fun _ _ h => by cases h) rfl (fun _ => Tab.Ext.refl _ _) ?_; apply Exists.intro; refine And.intro (fun l w' _ _ hw => ?_) ?_; focus (go_simp; rfl)) | (refine Tab.tab_repE rfl (Tab.silent_true _) rfl (fun _ _ h => by cases h) rfl (fun _ => Tab.Ext.refl _ _) ?_; apply Exists.intro; refine And.intro (fun l w' hs hc hw => ?_) ?_; focus (go_simp; rfl)))
      refine Tab.tab_callk (.ty fun v w => RV 0 w v (y.n * 10 ^ d')) rfl (fun v w w' hE h => h.ext hE) rfl rfl cfTwelve rfl (fun l w' _ _ _ hw => ?_) ?_
      · show Calls _ _ #[tx y A2 c2] w' _
        refine (twelve_any y HO2.out A2 c2 d' hd' HSC'.out w').mono ?_
        rintro e w2 ⟨v, rfl, ⟨ds, hv, hr⟩, hb⟩
        exact ⟨v, rfl, ⟨ds, hv.base (Nat.zero_le _), hr⟩, Tab.Ext.of_below hb, trivial⟩
      refine Tab.tab_call (.is (.int .i64 (cmpI (x.n * 10 ^ d) (y.n * 10 ^ d')))) rfl (Tab.stable_is _) rfl rfl cfCompareWide (fun l ρ w' _ _ _ hw hx => ?_) ?_
      · have e4 := hx (.tmp 20) (by simp)
        simp only [Tab.Env.tyd, Tab.Env.knows, Tab.Env.get, Nat.reduceEqDiff, if_true, if_false, Tab.Ty.holds] at e4
        have e5 := hx (.tmp 22) (by simp)
        simp only [Tab.Env.tyd, Tab.Env.knows, Tab.Env.get, Nat.reduceEqDiff, if_true, if_false, Tab.Ty.holds] at e5
        simp only [List.map_toArray, List.map_cons, List.map_nil]
        refine (compareWide_any 0 0 _ _ _ _ w' e4 e5).mono ?_
        rintro e w2 ⟨rfl, hb⟩
        exact ⟨_, rfl, rfl, Tab.Ext.of_below hb, trivial⟩
      iterate 1 (first | (refine Tab.tab_moveE _ rfl (Tab.silent_true _) (.inl rfl) rfl rfl (fun _ => Tab.Ext.refl _ _) ?_; apply Exists.intro; refine And.intro ?_ ?_; focus (simp [Tab.Env.ev, Tab.Env.get]; rfl)) | (refine Tab.tab_moveE _ rfl (Tab.silent_true _) (.inr rfl) rfl rfl (fun _ => Tab.Ext.refl _ _) ?_; apply Exists.intro; refine And.intro ?_ ?_; focus (simp [Tab.Env.ev, Tab.Env.get]; rfl)) | refine Tab.tab_skip rfl (Tab.silent_true _) rfl ?_ | (refine Tab.tab_repE rfl (Tab.silent_true _) rfl (fun _ _ h => by cases h) rfl (fun _ => Tab.Ext.refl _ _) ?_; apply Exists.intro; refine And.intro (fun l w' _ _ hw => ?_) ?_; focus (go_simp; rfl)) | (refine Tab.tab_repE rfl (Tab.silent_true _) rfl (fun _ _ h => by cases h) rfl (fun _ => Tab.Ext.refl _ _) ?_; apply Exists.intro; refine And.intro (fun l w' hs hc hw => ?_) ?_; focus (go_simp; rfl)))
      intro a_ w3_ hw3_ hsat_
      refine Tab.fin_of_sat rfl ?_ hsat_
      simp only [Tab.fin, Act.put, List.setIfInBounds_toArray, List.set_cons_succ, List.set_cons_zero]
      intro v22 _ v20 _
      have hbel' := st.below.drew.trans (hw3_.below.mono st.below.size)
      have q0' := q0 _ hw3_
      have q1' := q1 _ hw3_
      clear hsat_ hw3_ q0 q1 st
      by_cases hn : cmpI (x.n * 10 ^ d) (y.n * 10 ^ d') = 0
      · have e1 : (cmpI (x.n * 10 ^ d) (y.n * 10 ^ d') != 0) = false := by simp [hn]
        have HN := Lib.hid (HE2.out.trans (orI_neg hn))
        clear hn
        go_wp2_with (go_at_call 150; refine (order_any _ _ _).mono ?_; rintro e w' ⟨rfl, rfl⟩)
        go_ret
        exact ⟨ret_int HN.out.symm, hbel'⟩
      · have e1 : (cmpI (x.n * 10 ^ d) (y.n * 10 ^ d') != 0) = true := by simp [hn]
        have HN := Lib.hid (HE2.out.trans (orI_pos hn))
        clear hn
        go_wp2_with fail
        go_ret
        exact ⟨ret_int HN.out.symm, hbel'⟩
    · have hy' : scaleOk y.sc = false := by simpa using hy
      rw [hy'] at HE ⊢
      have hbel' := st.below
      clear hy
      go_wp2_with fail
      go_ret
      exact ⟨ret_int HE.out.symm, hbel'⟩
  · have hx' : scaleOk x.sc = false := by simpa using hx
    rw [hx'] at HE ⊢
    clear hx
    by_cases hy : scaleOk y.sc = true
    · rw [hy] at HE ⊢
      have hbel' := st.below
      go_wp2_with fail
      go_ret
      exact ⟨ret_int HE.out.symm, hbel'⟩
    · have hy' : scaleOk y.sc = false := by simpa using hy
      rw [hy'] at HE ⊢
      clear hy
      have q0 := wcell5 st.B0
      have q1 := wcell5 st.B1
      have hbel' := st.below
      clear st
      by_cases hn : x.n = y.n
      · have e1 : (x.n != y.n) = false := by simp [hn]
        have HN := Lib.hid (HE.out.trans (orI_neg (cmpI_eq hn)))
        clear hn
        go_wp2_with (go_at_call 150; refine (order_any _ _ _).mono ?_; rintro e w' ⟨rfl, rfl⟩)
        go_ret
        exact ⟨ret_int HN.out.symm, hbel'⟩
      · have e1 : (x.n != y.n) = true := by simp [hn]
        have HN := Lib.hid (HE.out.trans (orI_pos (cmpI_ne hn)))
        clear hn
        go_wp2_with (go_at_call 150; refine (order_any _ _ _).mono ?_; rintro e w' ⟨rfl, rfl⟩)
        go_ret
        exact ⟨ret_int HN.out.symm, hbel'⟩
end Go.Proofs.YthejmnmkbldacaaGreatDoor
