/-
  What is proved: symMerge where its second part is one difference. Conditions: none.
  What is proved: symMerge merges two sorted parts of a row of differences. Conditions: none.
-/
import Derived.Test.YthejmnmkbldacaaGreatDoorAp19
import Derived.Deep.DeepCutAuto
set_option linter.all false
namespace Go.Proofs.YthejmnmkbldacaaGreatDoor
open Go.RowKit
attribute [local go_sem] Tab.Env.ev Tab.Env.get

/-- where the search in the first part stands -/
structure Find2 (l : List DE) (a m x y : Nat) : Prop where
  lo : a ≤ x
  xy : x ≤ y
  hi : y ≤ m
  less : ∀ k, a ≤ k → k < x → ¬ cmpD (dat l m) (dat l k) < 0
  more : ∀ k, y ≤ k → k < m → cmpD (dat l m) (dat l k) < 0
theorem Find2.start (l : List DE) {a m : Nat} (h : a ≤ m) : Find2 l a m a m := ⟨Nat.le_refl _, h, Nat.le_refl _, fun k h1 h2 => by omega, fun k h1 h2 => by omega⟩
theorem Find2.up {l : List DE} {a m x y h : Nat} (hs : SortedOn cmpD l a m) (H : Find2 l a m x y) (h1 : x ≤ h) (h2 : h < y) (hc : ¬ cmpD (dat l m) (dat l h) < 0) : Find2 l a m (h + 1) y :=
  ⟨by have := H.lo; omega, h2, H.hi, fun k k1 k2 hk => hc (cmpD_ord.lt_of_lt_le hk (hs.le cmpD_ord (i := k) (j := h) k1 (by omega) (by have := H.hi; omega))), H.more⟩
theorem Find2.down {l : List DE} {a m x y h : Nat} (hs : SortedOn cmpD l a m) (H : Find2 l a m x y) (h1 : x ≤ h) (h2 : h < y) (hc : cmpD (dat l m) (dat l h) < 0) : Find2 l a m x h :=
  ⟨H.lo, h1, by have := H.hi; omega, H.less, fun k k1 k2 => cmpD_ord.lt_of_lt_le hc (hs.le cmpD_ord (i := h) (j := k) (by have := H.lo; omega) k1 k2)⟩

set_option maxHeartbeats 4000000 in
set_option maxRecDepth 100000 in
theorem symMerge_last (f : FuncId) (HF : CmpOK f) (g cap : Nat) (F : Nat → Prop) (n a m b : Nat) (hm1 : m ≠ a + 1) (hm : b = m + 1) : SymC f g cap F n a m b := by
  intro l w0 w st ham hmb hbn hL hR
  obtain ⟨hcap, hmax⟩ := st.caps
  have hsm := st.small
  have HST := Lib.hid st
  have HCMP := Lib.hid HF
  have e0 : ((m : Int) - a == 1) = false := by simp; omega
  have e1 : ((b : Int) - m == 1) = true := by simp; omega
  have HM := Lib.hid hm
  have HL := Lib.hid hL
  have hmn : m < n := by omega
  clear st HF hm hR hL hm1
  go_enter Tryz.func188, Tryz.ntmps188
  go_wp2_with fail
  go_loopw [14, 15] (fun i j wr => ∃ (x y : Nat), i = .int .i64 x ∧ j = .int .i64 y ∧ ST g cap F n w0 wr l ∧ Find2 l a m x y) (fun i j _ => (intOf j).toNat - (intOf i).toNat)
  case atStart => exact ⟨a, m, rfl, rfl, HST.out, Find2.start l (by omega)⟩
  case round =>
    obtain ⟨x, y, rfl, rfl, hs, hf⟩ := hrel
    have f1 := hf.lo
    have f2 := hf.xy
    have f3 := hf.hi
    have HFI := Lib.hid hf
    have HS := Lib.hid hs
    by_cases hlt : x < y
    · obtain ⟨h, hh⟩ : ∃ h, (x + y) / 2 = h := ⟨_, rfl⟩
      have hh1 : x ≤ h := by omega
      have hh2 : h < y := by omega
      have hx1 : 0 ≤ (x : Int) + y := by omega
      have hx2 : (x : Int) + y < 9223372036854775808 := by omega
      have hx3 : ((x : Int) + y) / 2 = h := by omega
      obtain ⟨A1, m1, c1, r1, n1, e1, g1, p1, q1⟩ := hs.at_ (i := m) (by omega)
      obtain ⟨A2, m2, c2, r2, n2, e2, g2, p2, q2⟩ := hs.at_ (i := h) (by omega)
      have HCALL := Lib.hid (ST.cmp HCMP.out g1 g2)
      have HE1 := Lib.hid e1
      have HE2 := Lib.hid e2
      clear hs e1 e2 g1 g2 p1 p2 hf hh
      have hb1 : h < n := by omega
      go_wp2_with fail
      refine Tab.wp_region_tab (Tab.Ext fun _ => False) (by kernel_rfl) (by kernel_rfl) (fun _ => Tab.Ext.refl _ _) (fun _ _ _ h k => h.trans k) ?_
      iterate 9 (first | (refine Tab.tab_moveE _ rfl (Tab.silent_true _) (.inl rfl) rfl rfl (fun _ => Tab.Ext.refl _ _) ?_; apply Exists.intro; refine And.intro ?_ ?_; focus (simp [Tab.Env.ev, Tab.Env.get]; rfl)) | (refine Tab.tab_moveE _ rfl (Tab.silent_true _) (.inr rfl) rfl rfl (fun _ => Tab.Ext.refl _ _) ?_; apply Exists.intro; refine And.intro ?_ ?_; focus (simp [Tab.Env.ev, Tab.Env.get]; rfl)) | refine Tab.tab_skip rfl (Tab.silent_true _) rfl ?_ | (refine Tab.tab_repE rfl (Tab.silent_true _) rfl (fun _ _ h => by cases h) rfl (fun _ => Tab.Ext.refl _ _) ?_; apply Exists.intro; refine And.intro (fun l w' _ _ hw => ?_) ?_; focus (go_simp; rfl)) | (refine Tab.tab_repE rfl (Tab.silent_true _) rfl (fun _ _ h => by cases h) rfl (fun _ => Tab.Ext.refl _ _) ?_; apply Exists.intro; refine And.intro (fun l w' hs hc hw => ?_) ?_; focus (go_simp; rfl)))
      refine Tab.tab_callv (f := f) (.int .i64 (cmpD ⟨.slice A1 m1 c1, r1, n1⟩ ⟨.slice A2 m2 c2, r2, n2⟩)) rfl rfl rfl rfl rfl HCMP.out.cf rfl (fun l_ w' _ _ _ hw => ?_) ?_
      · show Calls _ _ #[DE.val ⟨.slice A1 m1 c1, r1, n1⟩, DE.val ⟨.slice A2 m2 c2, r2, n2⟩] w' _
        refine (HCALL.out w' hw).mono ?_
        rintro e_ w_ ⟨rfl, hb_⟩
        exact ⟨rfl, Tab.Ext.of_below hb_, trivial⟩
      iterate 2 (first | (refine Tab.tab_moveE _ rfl (Tab.silent_true _) (.inl rfl) rfl rfl (fun _ => Tab.Ext.refl _ _) ?_; apply Exists.intro; refine And.intro ?_ ?_; focus (simp [Tab.Env.ev, Tab.Env.get]; rfl)) | (refine Tab.tab_moveE _ rfl (Tab.silent_true _) (.inr rfl) rfl rfl (fun _ => Tab.Ext.refl _ _) ?_; apply Exists.intro; refine And.intro ?_ ?_; focus (simp [Tab.Env.ev, Tab.Env.get]; rfl)) | refine Tab.tab_skip rfl (Tab.silent_true _) rfl ?_ | (refine Tab.tab_repE rfl (Tab.silent_true _) rfl (fun _ _ h => by cases h) rfl (fun _ => Tab.Ext.refl _ _) ?_; apply Exists.intro; refine And.intro (fun l w' _ _ hw => ?_) ?_; focus (go_simp; rfl)) | (refine Tab.tab_repE rfl (Tab.silent_true _) rfl (fun _ _ h => by cases h) rfl (fun _ => Tab.Ext.refl _ _) ?_; apply Exists.intro; refine And.intro (fun l w' hs hc hw => ?_) ?_; focus (go_simp; rfl)))
      intro a_ w_ hw_ hsat_
      refine Tab.fin_of_sat rfl ?_ hsat_
      simp only [Tab.fin, Act.put, List.setIfInBounds_toArray, List.set_cons_succ, List.set_cons_zero]
      have hs' := Lib.hid (HS.out.laterd hw_)
      clear hsat_ hw_ q1 q2 HCALL
      by_cases hc : cmpD ⟨.slice A1 m1 c1, r1, n1⟩ ⟨.slice A2 m2 c2, r2, n2⟩ < 0
      · rw [decide_eq_true hc, Bool.not_true]
        have HN := Lib.hid (HFI.out.down HL.out hh1 hh2 (by rw [HE1.out, HE2.out]; exact hc))
        clear hc
        go_wp2_with fail
        go_roundw
        case rel => exact ⟨x, h, rfl, rfl, hs'.out, HN.out⟩
        case measure => simp [intOf] <;> omega
      · rw [decide_eq_false hc, Bool.not_false]
        have HN := Lib.hid (HFI.out.up HL.out hh1 hh2 (by rw [HE1.out, HE2.out]; exact hc))
        clear hc
        go_wp2_with fail
        go_roundw
        case rel => exact ⟨h + 1, y, by go_num, rfl, hs'.out, HN.out⟩
        case measure => simp [intOf] <;> omega
    · obtain rfl : x = y := by omega
      have hdec : decide ((x : Int) < (x : Int)) = false := by simp
      clear hs hf hlt
      go_wp2_with fail
      go_loopw [17] (fun i wr => ∃ (k : Nat) (l' : List DE), x ≤ k ∧ k ≤ m ∧ i = .int .i64 k ∧ ST g cap F n w0 wr l' ∧ Down l l' m k) (fun i _ => (intOf i).toNat)
      case atStart => exact ⟨m, l, f3, Nat.le_refl _, rfl, HS.out, Down.start _ _⟩
      case round =>
        obtain ⟨k, l', k1, k2, rfl, hs, hu⟩ := hrel
        have HU := Lib.hid hu
        by_cases hlt : x < k
        · have HLEN := Lib.hid (HS.out.len)
          obtain ⟨j, rfl⟩ : ∃ j, k = j + 1 := ⟨k - 1, by omega⟩
          have hdec : decide ((x : Int) < (j : Int) + 1) = true := by simp; omega
          obtain ⟨A1, m1, c1, r1, n1, e1, g1, p1, -⟩ := hs.at_ (i := j + 1) (by omega)
          obtain ⟨A2, m2, c2, r2, n2, e2, g2, p2, -⟩ := hs.at_ (i := j) (by omega)
          have hfz := fun i => hs.frozen i
          have HSW := Lib.hid (hs.swap (i := j + 1) (j := j) (by omega) (by omega))
          rw [e1, e2] at HSW
          have HU2 := Lib.hid (hu.step k2 (by omega) (by rw [HLEN.out]; omega))
          have hjn : (0 : Int) ≤ (j : Int) + 1 ∧ (j : Int) + 1 < (n : Int) := by omega
          have hjn' : j < n := by omega
          have wj := IntWalk.i64_in (j : Int) (by omega)
          have tj : ((j : Int) + 1).toNat = j + 1 := by omega
          clear e1 e2 g1 g2 hs hu
          go_wp2_with fail
          refine Tab.wp_region_tabC (fun _ _ => True) (Tab.stage2C 15 17 (fun b1_ b2_ w_' => w_' = if b2_ = true then ((((wr.drew.setCell ⟨g, (j + 1) * 2, none⟩ (.slice A2 m2 c2)).setCell ⟨g, (j + 1) * 2 + 1, none⟩ (.int .i64 n2)).setCell ⟨g, j * 2, none⟩ (.slice A1 m1 c1)).setCell ⟨g, j * 2 + 1, none⟩ (.int .i64 n1)) else if b1_ = true then ((wr.drew.setCell ⟨g, (j + 1) * 2, none⟩ (.slice A2 m2 c2)).setCell ⟨g, (j + 1) * 2 + 1, none⟩ (.int .i64 n2)) else wr.drew)) (by kernel_rfl) (by kernel_rfl) (fun _ => trivial) (fun _ _ _ _ _ => trivial) (Tab.stage2C_start rfl) ?_
          iterate 15 (first | (refine Tab.tab_moveE _ rfl (Tab.silent_at2 (by decide)) (.inl rfl) rfl rfl (fun _ => trivial) ?_; apply Exists.intro; refine And.intro ?_ ?_; focus (simp [Tab.Env.ev, Tab.Env.get]; rfl)) | (refine Tab.tab_moveE _ rfl (Tab.silent_at2 (by decide)) (.inr rfl) rfl rfl (fun _ => trivial) ?_; apply Exists.intro; refine And.intro ?_ ?_; focus (simp [Tab.Env.ev, Tab.Env.get]; rfl)) | refine Tab.tab_skip rfl (Tab.silent_at2 (by decide)) rfl ?_ | (refine Tab.tab_repE rfl (Tab.silent_at2 (by decide)) rfl (fun _ _ h => by cases h) rfl (fun _ => trivial) ?_; apply Exists.intro; refine And.intro (fun l w' _ _ hw => ?_) ?_; focus (go_simp; rfl)) | (refine Tab.tab_repE rfl (Tab.silent_at2 (by decide)) rfl (fun _ _ h => by cases h) rfl (fun _ => trivial) ?_; apply Exists.intro; refine And.intro (fun l w' hs hc hw => ?_) ?_; focus (first | (go_simp; rfl) | (have h := Tab.stage2C_before hc hs ⟨by kernel_rfl, by kernel_rfl⟩; simp only [Bool.false_eq_true, if_false] at h; subst h; go_simp; rfl))))
          (refine Tab.tab_act rfl rfl (fun _ _ h => by cases h) rfl (fun l w' hsz hs hc hw => ?_) ?_; focus (obtain ⟨h2_, h⟩ := Tab.stage2C_first hc hs (by kernel_rfl); simp only [Bool.false_eq_true, if_false] at h; subst h; refine ⟨((wr.drew.setCell ⟨g, (j + 1) * 2, none⟩ (.slice A2 m2 c2)).setCell ⟨g, (j + 1) * 2 + 1, none⟩ (.int .i64 n2)), ?_, trivial, Tab.stage2C_done1 rfl h2_ (by rw [hsz]; decide) (by decide)⟩; go_simp; done))
          iterate 1 (first | (refine Tab.tab_moveE _ rfl (Tab.silent_at2 (by decide)) (.inl rfl) rfl rfl (fun _ => trivial) ?_; apply Exists.intro; refine And.intro ?_ ?_; focus (simp [Tab.Env.ev, Tab.Env.get]; rfl)) | (refine Tab.tab_moveE _ rfl (Tab.silent_at2 (by decide)) (.inr rfl) rfl rfl (fun _ => trivial) ?_; apply Exists.intro; refine And.intro ?_ ?_; focus (simp [Tab.Env.ev, Tab.Env.get]; rfl)) | refine Tab.tab_skip rfl (Tab.silent_at2 (by decide)) rfl ?_ | (refine Tab.tab_repE rfl (Tab.silent_at2 (by decide)) rfl (fun _ _ h => by cases h) rfl (fun _ => trivial) ?_; apply Exists.intro; refine And.intro (fun l w' _ _ hw => ?_) ?_; focus (go_simp; rfl)) | (refine Tab.tab_repE rfl (Tab.silent_at2 (by decide)) rfl (fun _ _ h => by cases h) rfl (fun _ => trivial) ?_; apply Exists.intro; refine And.intro (fun l w' hs hc hw => ?_) ?_; focus (go_simp; rfl)))
          (refine Tab.tab_act rfl rfl (fun _ _ h => by cases h) rfl (fun l w' hsz hs hc hw => ?_) ?_; focus (obtain ⟨h1_, h⟩ := Tab.stage2C_second hc hs (by kernel_rfl); simp only [Bool.false_eq_true, if_false, if_true] at h; subst h; refine ⟨((((wr.drew.setCell ⟨g, (j + 1) * 2, none⟩ (.slice A2 m2 c2)).setCell ⟨g, (j + 1) * 2 + 1, none⟩ (.int .i64 n2)).setCell ⟨g, j * 2, none⟩ (.slice A1 m1 c1)).setCell ⟨g, j * 2 + 1, none⟩ (.int .i64 n1)), ?_, trivial, Tab.stage2C_done2 rfl h1_ (by rw [hsz]; decide) (by decide)⟩; go_simp; done))
          intro l_ a_ w_ hall_ hcl_ _ hsat_
          have hw_ := Tab.stage2C_end hcl_ hall_ (by decide)
          simp only [if_true] at hw_
          subst hw_
          refine Tab.fin_of_sat rfl ?_ hsat_
          simp only [Tab.fin, Act.put, List.setIfInBounds_toArray, List.set_cons_succ, List.set_cons_zero]
          go_wp2_with fail
          go_roundw
          case rel => exact ⟨j, _, by omega, by omega, by go_num, HSW.out, HU2.out⟩
          case measure => simp [intOf] <;> omega
        · obtain rfl : k = x := by omega
          have HS' := Lib.hid hs
          have HF := Lib.hid (hu.sorted cmpD_ord f1 f3 HL.out HFI.out.less HFI.out.more)
          clear hs hu
          go_wp2_with fail
          exact bodyPost_ret (v := .tuple #[]) (results_none rfl _ _ _) rfl ⟨rfl, l', HS'.out, HM.out ▸ HF.out⟩
end Go.Proofs.YthejmnmkbldacaaGreatDoor

namespace Go.Proofs.YthejmnmkbldacaaGreatDoor
open Go.RowKit
attribute [local go_sem] Tab.Env.ev Tab.Env.get

theorem cfSym : ∀ (args : Array Value) (w : World), (callFunc 188 args).run Tryz.prog w = .ok (.enter 188 args) w := fun _ _ => by simp [go_sem]
set_option maxHeartbeats 4000000 in
set_option maxRecDepth 100000 in
theorem symMerge_gt (f : FuncId) (HF : CmpOK f) (g cap : Nat) (F : Nat → Prop) (n a m b : Nat) (hm1 : m ≠ a + 1) (hm2 : b ≠ m + 1) (hmm' : (a + b) / 2 < m) (IH : ∀ a' m' b', b' - a' < b - a → SymC f g cap F n a' m' b') : SymC f g cap F n a m b := by
  intro l w0 w st ham hmb hbn hL hR
  obtain ⟨hcap, hmax⟩ := st.caps
  have hsm := st.small
  have HST := Lib.hid st
  have HCMP := Lib.hid HF
  have HI := Lib.hid IH
  have e0 : ((m : Int) - a == 1) = false := by simp; omega
  have e1 : ((b : Int) - m == 1) = false := by simp; omega
  have HL := Lib.hid hL
  have HR := Lib.hid hR
  obtain ⟨mid, hmid⟩ : ∃ mid, (a + b) / 2 = mid := ⟨_, rfl⟩
  have hx1 : 0 ≤ (a : Int) + b := by omega
  have hx2 : (a : Int) + b < 9223372036854775808 := by omega
  have hx3 : ((a : Int) + b) / 2 = mid := by omega
  have d1 : 2 * mid ≤ a + b := by omega
  have d2 : a + b ≤ 2 * mid + 1 := by omega
  have HMID := Lib.hid hmid
  have dm1 : a < mid := by omega
  have dm2 : mid < b := by omega
  have hmm : mid < m := by omega
  clear st HF hL hR hm1 hm2 IH hmid hmm'
  have wn := IntWalk.i64_in ((mid : Int) + m) (by omega)
  have wp := IntWalk.i64_in ((mid : Int) + m - 1) (by omega)
  obtain ⟨s0, r0, hsr, hsr2, hsr3, hsr4, hsr5⟩ : ∃ s0 r0 : Nat, ((mid < m ∧ s0 = mid + m - b ∧ r0 = mid) ∨ (m ≤ mid ∧ s0 = a ∧ r0 = m)) ∧ a ≤ s0 ∧ s0 ≤ r0 ∧ r0 ≤ m ∧ r0 ≤ mid := ⟨mid + m - b, mid, by omega, by omega, by omega, by omega, by omega⟩
  have hs05 : mid + m - r0 ≤ b ∧ mid + m - s0 ≤ b := by omega
  have HSR := Lib.hid hsr
  have hdec : decide ((mid : Int) < m) = true := by simp; omega
  have SV : ((mid : Int) + m - b : Int) = (s0 : Int) := by have := HSR.out; omega
  have RV : ((mid : Int) : Int) = (r0 : Int) := by have := HSR.out; omega
  have HSV := Lib.hid SV
  have HRV := Lib.hid RV
  clear hsr SV RV d1 d2
  go_enter Tryz.func188, Tryz.ntmps188
  go_wp2_with fail
  go_loopw [20, 21] (fun i j wr => ∃ (x y : Nat), i = .int .i64 x ∧ j = .int .i64 y ∧ ST g cap F n w0 wr l ∧ Sm cmpD l (mid + m - 1) s0 r0 x y) (fun i j _ => (intOf j).toNat - (intOf i).toNat)
  case atStart => exact ⟨s0, r0, by first | rfl | (rw [← HSV.out]), by first | rfl | (rw [← HRV.out]), HST.out, Sm.start l _ hsr3⟩
  case round =>
    obtain ⟨x, y, rfl, rfl, hs, hf⟩ := hrel
    have f1 := hf.lo
    have f2 := hf.sr
    have f3 := hf.hi
    have HFI := Lib.hid hf
    have HS := Lib.hid hs
    by_cases hlt : x < y
    · as_aux_lemma =>
      obtain ⟨h, hh⟩ : ∃ h, (x + y) / 2 = h := ⟨_, rfl⟩
      have hh1 : x ≤ h := by omega
      have hh2 : h < y := by omega
      have hx1 : 0 ≤ (x : Int) + y := by omega
      have hx2 : (x : Int) + y < 9223372036854775808 := by omega
      have hx3 : ((x : Int) + y) / 2 = h := by omega
      obtain ⟨q, hq⟩ : ∃ q, mid + m - 1 - h = q := ⟨_, rfl⟩
      have hq1 : q < n := by omega
      have hb1 : h < n := by omega
      have hq2 : (mid : Int) + m - 1 - h = q := by omega
      have wq := IntWalk.i64_in (q : Int) (by omega)
      have HQ := Lib.hid hq
      obtain ⟨A1, m1, c1, r1, n1, e1, g1, p1, q1⟩ := hs.at_ (i := q) (by omega)
      obtain ⟨A2, m2, c2, r2, n2, e2, g2, p2, q2⟩ := hs.at_ (i := h) (by omega)
      have HCALL := Lib.hid (ST.cmp HCMP.out g1 g2)
      have HE1 := Lib.hid e1
      have HE2 := Lib.hid e2
      clear hs e1 e2 g1 g2 p1 p2 hf hh hq
      go_wp2_with fail
      refine Tab.wp_region_tab (Tab.Ext fun _ => False) (by kernel_rfl) (by kernel_rfl) (fun _ => Tab.Ext.refl _ _) (fun _ _ _ h k => h.trans k) ?_
      iterate 11 (first | (refine Tab.tab_moveE _ rfl (Tab.silent_true _) (.inl rfl) rfl rfl (fun _ => Tab.Ext.refl _ _) ?_; apply Exists.intro; refine And.intro ?_ ?_; focus (simp [Tab.Env.ev, Tab.Env.get]; rfl)) | (refine Tab.tab_moveE _ rfl (Tab.silent_true _) (.inr rfl) rfl rfl (fun _ => Tab.Ext.refl _ _) ?_; apply Exists.intro; refine And.intro ?_ ?_; focus (simp [Tab.Env.ev, Tab.Env.get]; rfl)) | refine Tab.tab_skip rfl (Tab.silent_true _) rfl ?_ | (refine Tab.tab_repE rfl (Tab.silent_true _) rfl (fun _ _ h => by cases h) rfl (fun _ => Tab.Ext.refl _ _) ?_; apply Exists.intro; refine And.intro (fun l w' _ _ hw => ?_) ?_; focus (go_simp; rfl)) | (refine Tab.tab_repE rfl (Tab.silent_true _) rfl (fun _ _ h => by cases h) rfl (fun _ => Tab.Ext.refl _ _) ?_; apply Exists.intro; refine And.intro (fun l w' hs hc hw => ?_) ?_; focus (go_simp; rfl)))
      refine Tab.tab_callv (f := f) (.int .i64 (cmpD ⟨.slice A1 m1 c1, r1, n1⟩ ⟨.slice A2 m2 c2, r2, n2⟩)) rfl rfl rfl rfl rfl HCMP.out.cf rfl (fun l_ w' _ _ _ hw => ?_) ?_
      · show Calls _ _ #[DE.val ⟨.slice A1 m1 c1, r1, n1⟩, DE.val ⟨.slice A2 m2 c2, r2, n2⟩] w' _
        refine (HCALL.out w' hw).mono ?_
        rintro e_ w_ ⟨rfl, hb_⟩
        exact ⟨rfl, Tab.Ext.of_below hb_, trivial⟩
      iterate 2 (first | (refine Tab.tab_moveE _ rfl (Tab.silent_true _) (.inl rfl) rfl rfl (fun _ => Tab.Ext.refl _ _) ?_; apply Exists.intro; refine And.intro ?_ ?_; focus (simp [Tab.Env.ev, Tab.Env.get]; rfl)) | (refine Tab.tab_moveE _ rfl (Tab.silent_true _) (.inr rfl) rfl rfl (fun _ => Tab.Ext.refl _ _) ?_; apply Exists.intro; refine And.intro ?_ ?_; focus (simp [Tab.Env.ev, Tab.Env.get]; rfl)) | refine Tab.tab_skip rfl (Tab.silent_true _) rfl ?_ | (refine Tab.tab_repE rfl (Tab.silent_true _) rfl (fun _ _ h => by cases h) rfl (fun _ => Tab.Ext.refl _ _) ?_; apply Exists.intro; refine And.intro (fun l w' _ _ hw => ?_) ?_; focus (go_simp; rfl)) | (refine Tab.tab_repE rfl (Tab.silent_true _) rfl (fun _ _ h => by cases h) rfl (fun _ => Tab.Ext.refl _ _) ?_; apply Exists.intro; refine And.intro (fun l w' hs hc hw => ?_) ?_; focus (go_simp; rfl)))
      intro a_ w_ hw_ hsat_
      refine Tab.fin_of_sat rfl ?_ hsat_
      simp only [Tab.fin, Act.put, List.setIfInBounds_toArray, List.set_cons_succ, List.set_cons_zero]
      have hs' := Lib.hid (HS.out.laterd hw_)
      clear hsat_ hw_ q1 q2 HCALL
      by_cases hc : cmpD ⟨.slice A1 m1 c1, r1, n1⟩ ⟨.slice A2 m2 c2, r2, n2⟩ < 0
      · rw [decide_eq_true hc, Bool.not_true]
        have HN := Lib.hid (HFI.out.down hh1 hh2 (by rw [HQ.out, HE1.out, HE2.out]; exact hc))
        clear hc
        go_wp2_with fail
        go_roundw
        case rel => exact ⟨x, h, rfl, rfl, hs'.out, HN.out⟩
        case measure => simp [intOf] <;> omega
      · rw [decide_eq_false hc, Bool.not_false]
        have HN := Lib.hid (HFI.out.up hh1 hh2 (by rw [HQ.out, HE1.out, HE2.out]; exact hc))
        clear hc
        go_wp2_with fail
        go_roundw
        case rel => exact ⟨h + 1, y, by go_num, rfl, hs'.out, HN.out⟩
        case measure => simp [intOf] <;> omega
    · obtain rfl : x = y := by omega
      have hdec2 : decide ((x : Int) < (x : Int)) = false := by simp
      have HQ := Lib.hid (HFI.out.quart cmpD_ord ham hmb (by have := HMID.out; omega) HSR.out HL.out HR.out)
      obtain ⟨e, he⟩ : ∃ e, mid + m - x = e := ⟨_, rfl⟩
      have he2 : (mid : Int) + m - x = e := by omega
      have q1 := HQ.out.1
      have q2 := HQ.out.2.1
      have q3 := HQ.out.2.2.1
      have q4 : m ≤ e := by have := HQ.out.2.2.2.2.1; omega
      have q5 : e ≤ b := by have := HQ.out.2.2.2.2.2.1; omega
      have q6 : mid ≤ e := by have := HQ.out.2.2.2.2.2.2.1; omega
      have HE := Lib.hid he
      have HQU := Lib.hid HQ.out.2.2.2.2.2.2.2
      rw [he] at HQU
      have wq := IntWalk.i64_in (e : Int) (by omega)
      have hte : x + e = mid + m := by omega
      have HTE := Lib.hid hte
      clear hs hf hlt he hte HQ hdec2
      go_upto_region 39 with (fail)
      go_cut [185] (fun s wc => ∃ B : Bool, s = .bool B ∧ (B = true ↔ x < m ∧ m < e) ∧ wc = wr)
      case first => as_aux_lemma =>
        by_cases h1 : x < m
        · have hd : decide (x < m) = true := by simp; omega
          by_cases h2 : m < e
          · have hd2 : decide (m < e) = true := by simp; omega
            go_wp2_with fail
            go_meet
            exact ⟨true, rfl, by simp; omega, rfl⟩
          · have hd2 : decide (m < e) = false := by simp; omega
            have H2 := Lib.hid h2
            clear h2
            go_wp2_with fail
            go_meet
            exact ⟨false, rfl, by have := H2.out; simp; omega, rfl⟩
        · have hd : decide (x < m) = false := by simp; omega
          have H1 := Lib.hid h1
          clear h1
          go_wp2_with fail
          go_meet
          exact ⟨false, rfl, by have := H1.out; simp; omega, rfl⟩
      obtain ⟨B, rfl, hB, rfl⟩ := hcut
      have HB := Lib.hid hB
      clear hB
      go_upto_if 185 with (fail)
      go_cut [] (fun wc => ∃ l1, ST g cap F n w0 wc l1 ∧ SameOut l l1 x e ∧ ∀ k, dat l1 k = rotAt l x m e k)
      case first => as_aux_lemma =>
        cases B with
        | true =>
          have hb := HB.out.1 rfl
          go_wp2_with fail
          refine (rotate_any g cap F l w0 _ n HS.out x m e hb.1 hb.2 (by omega) _).mono ?_
          rintro r w1 ⟨rfl, l1, o1, o2, o3⟩
          have O := Lib.hid (And.intro o1 (And.intro o2 o3))
          clear o1 o2 o3
          go_wp2_with fail
          go_meet
          exact ⟨l1, O.out.1, O.out.2.1, O.out.2.2⟩
        | false =>
          have hb : ¬ (x < m ∧ m < e) := fun h => by have := HB.out.2 h; cases this
          have HBN := Lib.hid hb
          clear hb
          go_wp2_with fail
          go_meet
          refine ⟨l, HS.out, .refl _ _ _, fun k => ?_⟩
          by_cases hc : x < m
          · have hme : m = e := by have := HBN.out; omega
            rw [← hme, rotAt_right]
          · have hmx : x = m := by omega
            rw [hmx, rotAt_left q4]
      obtain ⟨l1, o1, o2, o3⟩ := hcut
      have OST := Lib.hid o1
      have OSO := Lib.hid o2
      have OQ := Lib.hid (HQU.out l1 o3)
      clear o1 o2 o3
      clear HB
      obtain ⟨wA, rfl⟩ : ∃ wA, wA = wc := ⟨_, rfl⟩
      go_upto_region 41 with (fail)
      go_cut [199] (fun s wc => ∃ B : Bool, s = .bool B ∧ (B = true ↔ a < x ∧ x < mid) ∧ wc = wA)
      case first => as_aux_lemma =>
        by_cases h1 : a < x
        · have hd : decide (a < x) = true := by simp; omega
          by_cases h2 : x < mid
          · have hd2 : decide (x < mid) = true := by simp; omega
            go_wp2_with fail
            go_meet
            exact ⟨true, rfl, by simp; omega, rfl⟩
          · have hd2 : decide (x < mid) = false := by simp; omega
            have H2 := Lib.hid h2
            clear h2
            go_wp2_with fail
            go_meet
            exact ⟨false, rfl, by have := H2.out; simp; omega, rfl⟩
        · have hd : decide (a < x) = false := by simp; omega
          have H1 := Lib.hid h1
          clear h1
          go_wp2_with fail
          go_meet
          exact ⟨false, rfl, by have := H1.out; simp; omega, rfl⟩
      obtain ⟨B, rfl, hB, rfl⟩ := hcut
      have HB := Lib.hid hB
      clear hB
      go_upto_if 199 with (fail)
      go_cut [] (fun wc => ∃ l2, ST g cap F n w0 wc l2 ∧ SameOut l1 l2 a mid ∧ SortedOn cmpD l2 a mid)
      case first => as_aux_lemma =>
        cases B with
        | true =>
          have hb := HB.out.1 rfl
          go_wp2_with fail
          refine (HI.out a x mid (by omega) l1 w0 _ OST.out hb.1 hb.2 (by omega) OQ.out.p1 OQ.out.p2).mono ?_
          rintro r w1 ⟨rfl, l2, o1, o2, o3⟩
          have O := Lib.hid (And.intro o1 (And.intro o2 o3))
          clear o1 o2 o3
          go_wp2_with fail
          go_meet
          exact ⟨l2, O.out.1, O.out.2.1, O.out.2.2⟩
        | false =>
          have hb : ¬ (a < x ∧ x < mid) := fun h => by have := HB.out.2 h; cases this
          have HBN := Lib.hid hb
          clear hb
          go_wp2_with fail
          go_meet
          exact ⟨l1, OST.out, .refl _ _ _, OQ.out.left_done HBN.out q1 q3⟩
      obtain ⟨l2, o1, o2, o3⟩ := hcut
      have PST := Lib.hid o1
      have PSO := Lib.hid o2
      have PSS := Lib.hid o3
      clear o1 o2 o3
      clear HB
      obtain ⟨wB, rfl⟩ : ∃ wB, wB = wc := ⟨_, rfl⟩
      go_upto_region 43 with (fail)
      go_cut [213] (fun s wc => ∃ B : Bool, s = .bool B ∧ (B = true ↔ mid < e ∧ e < b) ∧ wc = wB)
      case first => as_aux_lemma =>
        by_cases h1 : mid < e
        · have hd : decide (mid < e) = true := by simp; omega
          by_cases h2 : e < b
          · have hd2 : decide (e < b) = true := by simp; omega
            go_wp2_with fail
            go_meet
            exact ⟨true, rfl, by simp; omega, rfl⟩
          · have hd2 : decide (e < b) = false := by simp; omega
            have H2 := Lib.hid h2
            clear h2
            go_wp2_with fail
            go_meet
            exact ⟨false, rfl, by have := H2.out; simp; omega, rfl⟩
        · have hd : decide (mid < e) = false := by simp; omega
          have H1 := Lib.hid h1
          clear h1
          go_wp2_with fail
          go_meet
          exact ⟨false, rfl, by have := H1.out; simp; omega, rfl⟩
      obtain ⟨B, rfl, hB, rfl⟩ := hcut
      have HB := Lib.hid hB
      clear hB
      go_upto_if 213 with (fail)
      cases B with
      | true => as_aux_lemma =>
        have hb := HB.out.1 rfl
        go_wp2_with fail
        refine (HI.out mid e b (by omega) l2 w0 _ PST.out hb.1 hb.2 (by omega) (OQ.out.right_parts PSO.out q6).1 (OQ.out.right_parts PSO.out q6).2).mono ?_
        rintro r w1 ⟨rfl, l3, o1, o2, o3⟩
        have HF := Lib.hid (OQ.out.done (by omega) (by omega) PSO.out PSS.out o2 o3)
        have O := Lib.hid o1
        clear o1 o2 o3 hb
        go_wp2_with fail
        exact bodyPost_end (results_none rfl _ _ _) rfl ⟨rfl, l3, O.out, (OSO.out.wide q1 q5).trans HF.out.1, HF.out.2⟩
      | false => as_aux_lemma =>
        have hb : ¬ (mid < e ∧ e < b) := fun h => by have := HB.out.2 h; cases this
        have HF := Lib.hid (OQ.out.done (by omega) (by omega) PSO.out PSS.out (.refl _ _ _) (OQ.out.right_done PSO.out hb q6 q5))
        clear hb
        go_wp2_with fail
        exact bodyPost_end (results_none rfl _ _ _) rfl ⟨rfl, l2, PST.out, (OSO.out.wide q1 q5).trans HF.out.1, HF.out.2⟩

set_option maxHeartbeats 4000000 in
set_option maxRecDepth 100000 in
theorem symMerge_le (f : FuncId) (HF : CmpOK f) (g cap : Nat) (F : Nat → Prop) (n a m b : Nat) (hm1 : m ≠ a + 1) (hm2 : b ≠ m + 1) (hmm' : m ≤ (a + b) / 2) (IH : ∀ a' m' b', b' - a' < b - a → SymC f g cap F n a' m' b') : SymC f g cap F n a m b := by
  intro l w0 w st ham hmb hbn hL hR
  obtain ⟨hcap, hmax⟩ := st.caps
  have hsm := st.small
  have HST := Lib.hid st
  have HCMP := Lib.hid HF
  have HI := Lib.hid IH
  have e0 : ((m : Int) - a == 1) = false := by simp; omega
  have e1 : ((b : Int) - m == 1) = false := by simp; omega
  have HL := Lib.hid hL
  have HR := Lib.hid hR
  obtain ⟨mid, hmid⟩ : ∃ mid, (a + b) / 2 = mid := ⟨_, rfl⟩
  have hx1 : 0 ≤ (a : Int) + b := by omega
  have hx2 : (a : Int) + b < 9223372036854775808 := by omega
  have hx3 : ((a : Int) + b) / 2 = mid := by omega
  have d1 : 2 * mid ≤ a + b := by omega
  have d2 : a + b ≤ 2 * mid + 1 := by omega
  have HMID := Lib.hid hmid
  have dm1 : a < mid := by omega
  have dm2 : mid < b := by omega
  have hmm : m ≤ mid := by omega
  clear st HF hL hR hm1 hm2 IH hmid hmm'
  have wn := IntWalk.i64_in ((mid : Int) + m) (by omega)
  have wp := IntWalk.i64_in ((mid : Int) + m - 1) (by omega)
  obtain ⟨s0, r0, hsr, hsr2, hsr3, hsr4, hsr5⟩ : ∃ s0 r0 : Nat, ((mid < m ∧ s0 = mid + m - b ∧ r0 = mid) ∨ (m ≤ mid ∧ s0 = a ∧ r0 = m)) ∧ a ≤ s0 ∧ s0 ≤ r0 ∧ r0 ≤ m ∧ r0 ≤ mid := ⟨a, m, by omega, by omega, by omega, by omega, by omega⟩
  have hs05 : mid + m - r0 ≤ b ∧ mid + m - s0 ≤ b := by omega
  have HSR := Lib.hid hsr
  have SV : ((a : Int) : Int) = (s0 : Int) := by have := HSR.out; omega
  have RV : ((m : Int) : Int) = (r0 : Int) := by have := HSR.out; omega
  have HSV := Lib.hid SV
  have HRV := Lib.hid RV
  clear hsr SV RV d1 d2
  have hdec : decide (mid < m) = false := by simp; omega
  go_enter Tryz.func188, Tryz.ntmps188
  go_wp2_with fail
  go_loopw [20, 21] (fun i j wr => ∃ (x y : Nat), i = .int .i64 x ∧ j = .int .i64 y ∧ ST g cap F n w0 wr l ∧ Sm cmpD l (mid + m - 1) s0 r0 x y) (fun i j _ => (intOf j).toNat - (intOf i).toNat)
  case atStart => exact ⟨s0, r0, by first | rfl | (rw [← HSV.out]), by first | rfl | (rw [← HRV.out]), HST.out, Sm.start l _ hsr3⟩
  case round =>
    obtain ⟨x, y, rfl, rfl, hs, hf⟩ := hrel
    have f1 := hf.lo
    have f2 := hf.sr
    have f3 := hf.hi
    have HFI := Lib.hid hf
    have HS := Lib.hid hs
    by_cases hlt : x < y
    · as_aux_lemma =>
      obtain ⟨h, hh⟩ : ∃ h, (x + y) / 2 = h := ⟨_, rfl⟩
      have hh1 : x ≤ h := by omega
      have hh2 : h < y := by omega
      have hx1 : 0 ≤ (x : Int) + y := by omega
      have hx2 : (x : Int) + y < 9223372036854775808 := by omega
      have hx3 : ((x : Int) + y) / 2 = h := by omega
      obtain ⟨q, hq⟩ : ∃ q, mid + m - 1 - h = q := ⟨_, rfl⟩
      have hq1 : q < n := by omega
      have hb1 : h < n := by omega
      have hq2 : (mid : Int) + m - 1 - h = q := by omega
      have wq := IntWalk.i64_in (q : Int) (by omega)
      have HQ := Lib.hid hq
      obtain ⟨A1, m1, c1, r1, n1, e1, g1, p1, q1⟩ := hs.at_ (i := q) (by omega)
      obtain ⟨A2, m2, c2, r2, n2, e2, g2, p2, q2⟩ := hs.at_ (i := h) (by omega)
      have HCALL := Lib.hid (ST.cmp HCMP.out g1 g2)
      have HE1 := Lib.hid e1
      have HE2 := Lib.hid e2
      clear hs e1 e2 g1 g2 p1 p2 hf hh hq
      go_wp2_with fail
      refine Tab.wp_region_tab (Tab.Ext fun _ => False) (by kernel_rfl) (by kernel_rfl) (fun _ => Tab.Ext.refl _ _) (fun _ _ _ h k => h.trans k) ?_
      iterate 11 (first | (refine Tab.tab_moveE _ rfl (Tab.silent_true _) (.inl rfl) rfl rfl (fun _ => Tab.Ext.refl _ _) ?_; apply Exists.intro; refine And.intro ?_ ?_; focus (simp [Tab.Env.ev, Tab.Env.get]; rfl)) | (refine Tab.tab_moveE _ rfl (Tab.silent_true _) (.inr rfl) rfl rfl (fun _ => Tab.Ext.refl _ _) ?_; apply Exists.intro; refine And.intro ?_ ?_; focus (simp [Tab.Env.ev, Tab.Env.get]; rfl)) | refine Tab.tab_skip rfl (Tab.silent_true _) rfl ?_ | (refine Tab.tab_repE rfl (Tab.silent_true _) rfl (fun _ _ h => by cases h) rfl (fun _ => Tab.Ext.refl _ _) ?_; apply Exists.intro; refine And.intro (fun l w' _ _ hw => ?_) ?_; focus (go_simp; rfl)) | (refine Tab.tab_repE rfl (Tab.silent_true _) rfl (fun _ _ h => by cases h) rfl (fun _ => Tab.Ext.refl _ _) ?_; apply Exists.intro; refine And.intro (fun l w' hs hc hw => ?_) ?_; focus (go_simp; rfl)))
      refine Tab.tab_callv (f := f) (.int .i64 (cmpD ⟨.slice A1 m1 c1, r1, n1⟩ ⟨.slice A2 m2 c2, r2, n2⟩)) rfl rfl rfl rfl rfl HCMP.out.cf rfl (fun l_ w' _ _ _ hw => ?_) ?_
      · show Calls _ _ #[DE.val ⟨.slice A1 m1 c1, r1, n1⟩, DE.val ⟨.slice A2 m2 c2, r2, n2⟩] w' _
        refine (HCALL.out w' hw).mono ?_
        rintro e_ w_ ⟨rfl, hb_⟩
        exact ⟨rfl, Tab.Ext.of_below hb_, trivial⟩
      iterate 2 (first | (refine Tab.tab_moveE _ rfl (Tab.silent_true _) (.inl rfl) rfl rfl (fun _ => Tab.Ext.refl _ _) ?_; apply Exists.intro; refine And.intro ?_ ?_; focus (simp [Tab.Env.ev, Tab.Env.get]; rfl)) | (refine Tab.tab_moveE _ rfl (Tab.silent_true _) (.inr rfl) rfl rfl (fun _ => Tab.Ext.refl _ _) ?_; apply Exists.intro; refine And.intro ?_ ?_; focus (simp [Tab.Env.ev, Tab.Env.get]; rfl)) | refine Tab.tab_skip rfl (Tab.silent_true _) rfl ?_ | (refine Tab.tab_repE rfl (Tab.silent_true _) rfl (fun _ _ h => by cases h) rfl (fun _ => Tab.Ext.refl _ _) ?_; apply Exists.intro; refine And.intro (fun l w' _ _ hw => ?_) ?_; focus (go_simp; rfl)) | (refine Tab.tab_repE rfl (Tab.silent_true _) rfl (fun _ _ h => by cases h) rfl (fun _ => Tab.Ext.refl _ _) ?_; apply Exists.intro; refine And.intro (fun l w' hs hc hw => ?_) ?_; focus (go_simp; rfl)))
      intro a_ w_ hw_ hsat_
      refine Tab.fin_of_sat rfl ?_ hsat_
      simp only [Tab.fin, Act.put, List.setIfInBounds_toArray, List.set_cons_succ, List.set_cons_zero]
      have hs' := Lib.hid (HS.out.laterd hw_)
      clear hsat_ hw_ q1 q2 HCALL
      by_cases hc : cmpD ⟨.slice A1 m1 c1, r1, n1⟩ ⟨.slice A2 m2 c2, r2, n2⟩ < 0
      · rw [decide_eq_true hc, Bool.not_true]
        have HN := Lib.hid (HFI.out.down hh1 hh2 (by rw [HQ.out, HE1.out, HE2.out]; exact hc))
        clear hc
        go_wp2_with fail
        go_roundw
        case rel => exact ⟨x, h, rfl, rfl, hs'.out, HN.out⟩
        case measure => simp [intOf] <;> omega
      · rw [decide_eq_false hc, Bool.not_false]
        have HN := Lib.hid (HFI.out.up hh1 hh2 (by rw [HQ.out, HE1.out, HE2.out]; exact hc))
        clear hc
        go_wp2_with fail
        go_roundw
        case rel => exact ⟨h + 1, y, by go_num, rfl, hs'.out, HN.out⟩
        case measure => simp [intOf] <;> omega
    · obtain rfl : x = y := by omega
      have hdec2 : decide ((x : Int) < (x : Int)) = false := by simp
      have HQ := Lib.hid (HFI.out.quart cmpD_ord ham hmb (by have := HMID.out; omega) HSR.out HL.out HR.out)
      obtain ⟨e, he⟩ : ∃ e, mid + m - x = e := ⟨_, rfl⟩
      have he2 : (mid : Int) + m - x = e := by omega
      have q1 := HQ.out.1
      have q2 := HQ.out.2.1
      have q3 := HQ.out.2.2.1
      have q4 : m ≤ e := by have := HQ.out.2.2.2.2.1; omega
      have q5 : e ≤ b := by have := HQ.out.2.2.2.2.2.1; omega
      have q6 : mid ≤ e := by have := HQ.out.2.2.2.2.2.2.1; omega
      have HE := Lib.hid he
      have HQU := Lib.hid HQ.out.2.2.2.2.2.2.2
      rw [he] at HQU
      have wq := IntWalk.i64_in (e : Int) (by omega)
      have hte : x + e = mid + m := by omega
      have HTE := Lib.hid hte
      clear hs hf hlt he hte HQ hdec2
      go_upto_region 39 with (fail)
      go_cut [185] (fun s wc => ∃ B : Bool, s = .bool B ∧ (B = true ↔ x < m ∧ m < e) ∧ wc = wr)
      case first => as_aux_lemma =>
        by_cases h1 : x < m
        · have hd : decide (x < m) = true := by simp; omega
          by_cases h2 : m < e
          · have hd2 : decide (m < e) = true := by simp; omega
            go_wp2_with fail
            go_meet
            exact ⟨true, rfl, by simp; omega, rfl⟩
          · have hd2 : decide (m < e) = false := by simp; omega
            have H2 := Lib.hid h2
            clear h2
            go_wp2_with fail
            go_meet
            exact ⟨false, rfl, by have := H2.out; simp; omega, rfl⟩
        · have hd : decide (x < m) = false := by simp; omega
          have H1 := Lib.hid h1
          clear h1
          go_wp2_with fail
          go_meet
          exact ⟨false, rfl, by have := H1.out; simp; omega, rfl⟩
      obtain ⟨B, rfl, hB, rfl⟩ := hcut
      have HB := Lib.hid hB
      clear hB
      go_upto_if 185 with (fail)
      go_cut [] (fun wc => ∃ l1, ST g cap F n w0 wc l1 ∧ SameOut l l1 x e ∧ ∀ k, dat l1 k = rotAt l x m e k)
      case first => as_aux_lemma =>
        cases B with
        | true =>
          have hb := HB.out.1 rfl
          go_wp2_with fail
          refine (rotate_any g cap F l w0 _ n HS.out x m e hb.1 hb.2 (by omega) _).mono ?_
          rintro r w1 ⟨rfl, l1, o1, o2, o3⟩
          have O := Lib.hid (And.intro o1 (And.intro o2 o3))
          clear o1 o2 o3
          go_wp2_with fail
          go_meet
          exact ⟨l1, O.out.1, O.out.2.1, O.out.2.2⟩
        | false =>
          have hb : ¬ (x < m ∧ m < e) := fun h => by have := HB.out.2 h; cases this
          have HBN := Lib.hid hb
          clear hb
          go_wp2_with fail
          go_meet
          refine ⟨l, HS.out, .refl _ _ _, fun k => ?_⟩
          by_cases hc : x < m
          · have hme : m = e := by have := HBN.out; omega
            rw [← hme, rotAt_right]
          · have hmx : x = m := by omega
            rw [hmx, rotAt_left q4]
      obtain ⟨l1, o1, o2, o3⟩ := hcut
      have OST := Lib.hid o1
      have OSO := Lib.hid o2
      have OQ := Lib.hid (HQU.out l1 o3)
      clear o1 o2 o3
      clear HB
      obtain ⟨wA, rfl⟩ : ∃ wA, wA = wc := ⟨_, rfl⟩
      go_upto_region 41 with (fail)
      go_cut [199] (fun s wc => ∃ B : Bool, s = .bool B ∧ (B = true ↔ a < x ∧ x < mid) ∧ wc = wA)
      case first => as_aux_lemma =>
        by_cases h1 : a < x
        · have hd : decide (a < x) = true := by simp; omega
          by_cases h2 : x < mid
          · have hd2 : decide (x < mid) = true := by simp; omega
            go_wp2_with fail
            go_meet
            exact ⟨true, rfl, by simp; omega, rfl⟩
          · have hd2 : decide (x < mid) = false := by simp; omega
            have H2 := Lib.hid h2
            clear h2
            go_wp2_with fail
            go_meet
            exact ⟨false, rfl, by have := H2.out; simp; omega, rfl⟩
        · have hd : decide (a < x) = false := by simp; omega
          have H1 := Lib.hid h1
          clear h1
          go_wp2_with fail
          go_meet
          exact ⟨false, rfl, by have := H1.out; simp; omega, rfl⟩
      obtain ⟨B, rfl, hB, rfl⟩ := hcut
      have HB := Lib.hid hB
      clear hB
      go_upto_if 199 with (fail)
      go_cut [] (fun wc => ∃ l2, ST g cap F n w0 wc l2 ∧ SameOut l1 l2 a mid ∧ SortedOn cmpD l2 a mid)
      case first => as_aux_lemma =>
        cases B with
        | true =>
          have hb := HB.out.1 rfl
          go_wp2_with fail
          refine (HI.out a x mid (by omega) l1 w0 _ OST.out hb.1 hb.2 (by omega) OQ.out.p1 OQ.out.p2).mono ?_
          rintro r w1 ⟨rfl, l2, o1, o2, o3⟩
          have O := Lib.hid (And.intro o1 (And.intro o2 o3))
          clear o1 o2 o3
          go_wp2_with fail
          go_meet
          exact ⟨l2, O.out.1, O.out.2.1, O.out.2.2⟩
        | false =>
          have hb : ¬ (a < x ∧ x < mid) := fun h => by have := HB.out.2 h; cases this
          have HBN := Lib.hid hb
          clear hb
          go_wp2_with fail
          go_meet
          exact ⟨l1, OST.out, .refl _ _ _, OQ.out.left_done HBN.out q1 q3⟩
      obtain ⟨l2, o1, o2, o3⟩ := hcut
      have PST := Lib.hid o1
      have PSO := Lib.hid o2
      have PSS := Lib.hid o3
      clear o1 o2 o3
      clear HB
      obtain ⟨wB, rfl⟩ : ∃ wB, wB = wc := ⟨_, rfl⟩
      go_upto_region 43 with (fail)
      go_cut [213] (fun s wc => ∃ B : Bool, s = .bool B ∧ (B = true ↔ mid < e ∧ e < b) ∧ wc = wB)
      case first => as_aux_lemma =>
        by_cases h1 : mid < e
        · have hd : decide (mid < e) = true := by simp; omega
          by_cases h2 : e < b
          · have hd2 : decide (e < b) = true := by simp; omega
            go_wp2_with fail
            go_meet
            exact ⟨true, rfl, by simp; omega, rfl⟩
          · have hd2 : decide (e < b) = false := by simp; omega
            have H2 := Lib.hid h2
            clear h2
            go_wp2_with fail
            go_meet
            exact ⟨false, rfl, by have := H2.out; simp; omega, rfl⟩
        · have hd : decide (mid < e) = false := by simp; omega
          have H1 := Lib.hid h1
          clear h1
          go_wp2_with fail
          go_meet
          exact ⟨false, rfl, by have := H1.out; simp; omega, rfl⟩
      obtain ⟨B, rfl, hB, rfl⟩ := hcut
      have HB := Lib.hid hB
      clear hB
      go_upto_if 213 with (fail)
      cases B with
      | true => as_aux_lemma =>
        have hb := HB.out.1 rfl
        go_wp2_with fail
        refine (HI.out mid e b (by omega) l2 w0 _ PST.out hb.1 hb.2 (by omega) (OQ.out.right_parts PSO.out q6).1 (OQ.out.right_parts PSO.out q6).2).mono ?_
        rintro r w1 ⟨rfl, l3, o1, o2, o3⟩
        have HF := Lib.hid (OQ.out.done (by omega) (by omega) PSO.out PSS.out o2 o3)
        have O := Lib.hid o1
        clear o1 o2 o3 hb
        go_wp2_with fail
        exact bodyPost_end (results_none rfl _ _ _) rfl ⟨rfl, l3, O.out, (OSO.out.wide q1 q5).trans HF.out.1, HF.out.2⟩
      | false => as_aux_lemma =>
        have hb : ¬ (mid < e ∧ e < b) := fun h => by have := HB.out.2 h; cases this
        have HF := Lib.hid (OQ.out.done (by omega) (by omega) PSO.out PSS.out (.refl _ _ _) (OQ.out.right_done PSO.out hb q6 q5))
        clear hb
        go_wp2_with fail
        exact bodyPost_end (results_none rfl _ _ _) rfl ⟨rfl, l2, PST.out, (OSO.out.wide q1 q5).trans HF.out.1, HF.out.2⟩

theorem symMerge_all (f : FuncId) (HF : CmpOK f) (g cap : Nat) (F : Nat → Prop) (n : Nat) : ∀ (d a m b : Nat), b - a < d → SymC f g cap F n a m b
  | 0, a, m, b, h => by omega
  | d + 1, a, m, b, h => by
    by_cases h1 : m = a + 1
    · exact symMerge_one f HF g cap F n a m b h1
    · by_cases h2 : b = m + 1
      · exact symMerge_last f HF g cap F n a m b h1 h2
      · have IH : ∀ a' m' b', b' - a' < b - a → SymC f g cap F n a' m' b' := fun a' m' b' h' => symMerge_all f HF g cap F n d a' m' b' (by omega)
        by_cases h3 : (a + b) / 2 < m
        · exact symMerge_gt f HF g cap F n a m b h1 h2 h3 IH
        · exact symMerge_le f HF g cap F n a m b h1 h2 (by omega) IH
theorem symMerge_any (f : FuncId) (HF : CmpOK f) (g cap : Nat) (F : Nat → Prop) (n a m b : Nat) : SymC f g cap F n a m b := symMerge_all f HF g cap F n _ a m b (Nat.lt_succ_self _)
end Go.Proofs.YthejmnmkbldacaaGreatDoor
