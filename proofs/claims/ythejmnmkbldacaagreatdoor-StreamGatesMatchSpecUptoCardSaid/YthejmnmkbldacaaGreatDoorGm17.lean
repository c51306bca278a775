/-
  What is proved: symMerge merges two sorted parts of a row of differences. Conditions: none.
  What is proved: SortStableFunc sorts a row of differences. Conditions: none.
-/
import Derived.Test.YthejmnmkbldacaaGreatDoorGm16
import Derived.Deep.DeepCutAuto
set_option linter.all false
namespace Go.Proofs.YthejmnmkbldacaaGreatDoor
open Go.RowKit
attribute [local go_sem] Tab.Env.ev Tab.Env.get

theorem cfSym : ∀ (args : Array Value) (w : World), (callFunc 188 args).run Tryz.prog w = .ok (.enter 188 args) w := fun _ _ => by simp [go_sem]
set_option maxHeartbeats 4000000 in
set_option maxRecDepth 100000 in
theorem symMerge_gt (f : FuncId) (HF : CmpOK f) (g cap : Nat) (F : Nat → Prop) (n a m b : Nat) (hm1 : m ≠ a + 1) (hm2 : b ≠ m + 1) (hmm' : (a + b) / 2 < m) (IH : ∀ a' m' b', b' - a' < b - a → SymC f g cap F n a' m' b') : SymC f g cap F n a m b := by
  intro l w0 w st ham hmb hbn hL hR
  obtain ⟨hcap, hmax⟩ := st.caps
  have hsm := st.small
  have HST := Lib.hid st
  have HCMP := Lib.hid HF
  have HI := Lib.hid IH
  have e0 : ((m : Int) - a == 1) = false := by simp; omega
  have e1 : ((b : Int) - m == 1) = false := by simp; omega
  have HL := Lib.hid hL
  have HR := Lib.hid hR
  obtain ⟨mid, hmid⟩ : ∃ mid, (a + b) / 2 = mid := ⟨_, rfl⟩
  have hx1 : 0 ≤ (a : Int) + b := by omega
  have hx2 : (a : Int) + b < 9223372036854775808 := by omega
  have hx3 : ((a : Int) + b) / 2 = mid := by omega
  have d1 : 2 * mid ≤ a + b := by omega
  have d2 : a + b ≤ 2 * mid + 1 := by omega
  have HMID := Lib.hid hmid
  have dm1 : a < mid := by omega
  have dm2 : mid < b := by omega
  have hmm : mid < m := by omega
  clear st HF hL hR hm1 hm2 IH hmid hmm'
  have wn := IntWalk.i64_in ((mid : Int) + m) (by omega)
  have wp := IntWalk.i64_in ((mid : Int) + m - 1) (by omega)
  obtain ⟨s0, r0, hsr, hsr2, hsr3, hsr4, hsr5⟩ : ∃ s0 r0 : Nat, ((mid < m ∧ s0 = mid + m - b ∧ r0 = mid) ∨ (m ≤ mid ∧ s0 = a ∧ r0 = m)) ∧ a ≤ s0 ∧ s0 ≤ r0 ∧ r0 ≤ m ∧ r0 ≤ mid := ⟨mid + m - b, mid, by omega, by omega, by omega, by omega, by omega⟩
  have hs05 : mid + m - r0 ≤ b ∧ mid + m - s0 ≤ b := by omega
  have HSR := Lib.hid hsr
  have hdec : decide ((mid : Int) < m) = true := by simp; omega
  have SV : ((mid : Int) + m - b : Int) = (s0 : Int) := by have := HSR.out; omega
  have RV : ((mid : Int) : Int) = (r0 : Int) := by have := HSR.out; omega
  have HSV := Lib.hid SV
  have HRV := Lib.hid RV
  clear hsr SV RV d1 d2
  go_enter Tryz.func188, Tryz.ntmps188
  go_wp2_with fail
  go_loopw [20, 21] (fun i j wr => ∃ (x y : Nat), i = .int .i64 x ∧ j = .int .i64 y ∧ ST g cap F n w0 wr l ∧ Sm cmpD l (mid + m - 1) s0 r0 x y) (fun i j _ => (intOf j).toNat - (intOf i).toNat)
  case atStart => exact ⟨s0, r0, by first | rfl | (rw [← HSV.out]), by first | rfl | (rw [← HRV.out]), HST.out, Sm.start l _ hsr3⟩
  case round =>
    obtain ⟨x, y, rfl, rfl, hs, hf⟩ := hrel
    have f1 := hf.lo
    have f2 := hf.sr
    have f3 := hf.hi
    have HFI := Lib.hid hf
    have HS := Lib.hid hs
    by_cases hlt : x < y
    · as_aux_lemma =>
      obtain ⟨h, hh⟩ : ∃ h, (x + y) / 2 = h := ⟨_, rfl⟩
      have hh1 : x ≤ h := by omega
      have hh2 : h < y := by omega
      have hx1 : 0 ≤ (x : Int) + y := by omega
      have hx2 : (x : Int) + y < 9223372036854775808 := by omega
      have hx3 : ((x : Int) + y) / 2 = h := by omega
      obtain ⟨q, hq⟩ : ∃ q, mid + m - 1 - h = q := ⟨_, rfl⟩
      have hq1 : q < n := by omega
      have hb1 : h < n := by omega
      have hq2 : (mid : Int) + m - 1 - h = q := by omega
      have wq := IntWalk.i64_in (q : Int) (by omega)
      have HQ := Lib.hid hq
      obtain ⟨A1, m1, c1, r1, n1, e1, g1, p1, q1⟩ := hs.at_ (i := q) (by omega)
      obtain ⟨A2, m2, c2, r2, n2, e2, g2, p2, q2⟩ := hs.at_ (i := h) (by omega)
      have HCALL := Lib.hid (ST.cmp HCMP.out g1 g2)
      have HE1 := Lib.hid e1
      have HE2 := Lib.hid e2
      clear hs e1 e2 g1 g2 p1 p2 hf hh hq
      go_wp2_with fail
      refine Tab.wp_region_tab (Tab.Ext fun _ => False) (by kernel_rfl) (by kernel_rfl) (fun _ => Tab.Ext.refl _ _) (fun _ _ _ h k => h.trans k) ?_
      iterate 11 (first | (refine Tab.tab_moveE _ rfl (Tab.silent_true _) (.inl rfl) rfl rfl (fun _ => Tab.Ext.refl _ _) ?_; apply Exists.intro; refine And.intro ?_ ?_; focus (simp [Tab.Env.ev, Tab.Env.get]; rfl)) | (refine Tab.tab_moveE _ rfl (Tab.silent_true _) (.inr rfl) rfl rfl (fun _ => Tab.Ext.refl _ _) ?_; apply Exists.intro; refine And.intro ?_ ?_; focus (simp [Tab.Env.ev, Tab.Env.get]; rfl)) | refine Tab.tab_skip rfl (Tab.silent_true _) rfl ?_ | (refine Tab.tab_repE rfl (Tab.silent_true _) rfl (fun _ _ h => by cases h) rfl (fun _ => Tab.Ext.refl _ _) ?_; apply Exists.intro; refine And.intro (fun l w' _ _ hw => ?_) ?_; focus (go_simp; rfl)) | (refine Tab.tab_repE rfl (Tab.silent_true _) rfl (fun _ _ h => by cases h) rfl (fun _ => Tab.Ext.refl _ _) ?_; apply Exists.intro; refine And.intro (fun l w' hs hc hw => ?_) ?_; focus (go_simp; rfl)))
      refine Tab.tab_callv (f := f) (.int .i64 (cmpD ⟨.slice A1 m1 c1, r1, n1⟩ ⟨.slice A2 m2 c2, r2, n2⟩)) rfl rfl rfl rfl rfl HCMP.out.cf rfl (fun l_ w' _ _ _ hw => ?_) ?_
      · show Calls _ _ #[DE.val ⟨.slice A1 m1 c1, r1, n1⟩, DE.val ⟨.slice A2 m2 c2, r2, n2⟩] w' _
        refine (HCALL.out w' hw).mono ?_
        rintro e_ w_ ⟨rfl, hb_⟩
        exact ⟨rfl, Tab.Ext.of_below hb_, trivial⟩
      iterate 2 (first | (refine Tab.tab_moveE _ rfl (Tab.silent_true _) (.inl rfl) rfl rfl (fun _ => Tab.Ext.refl _ _) ?_; apply Exists.intro; refine And.intro ?_ ?_; focus (simp [Tab.Env.ev, Tab.Env.get]; rfl)) | (refine Tab.tab_moveE _ rfl (Tab.silent_true _) (.inr rfl) rfl rfl (fun _ => Tab.Ext.refl _ _) ?_; apply Exists.intro; refine And.intro ?_ ?_; focus (simp [Tab.Env.ev, Tab.Env.get]; rfl)) | refine Tab.tab_skip rfl (Tab.silent_true _) rfl ?_ | (refine Tab.tab_repE rfl (Tab.silent_true _) rfl (fun _ _ h => by cases h) rfl (fun _ => Tab.Ext.refl _ _) ?_; apply Exists.intro; refine And.intro (fun l w' _ _ hw => ?_) ?_; focus (go_simp; rfl)) | (refine Tab.tab_repE rfl (Tab.silent_true _) rfl (fun _ _ h => by cases h) rfl (fun _ => Tab.Ext.refl _ _) ?_; apply Exists.intro; refine And.intro (fun l w' hs hc hw => ?_) ?_; focus (go_simp; rfl)))
      intro a_ w_ hw_ hsat_
      refine Tab.fin_of_sat rfl ?_ hsat_
      simp only [Tab.fin, Act.put, List.setIfInBounds_toArray, List.set_cons_succ, List.set_cons_zero]
      have hs' := Lib.hid (HS.out.laterd hw_)
      clear hsat_ hw_ q1 q2 HCALL
      by_cases hc : cmpD ⟨.slice A1 m1 c1, r1, n1⟩ ⟨.slice A2 m2 c2, r2, n2⟩ < 0
      · rw [decide_eq_true hc, Bool.not_true]
        have HN := Lib.hid (HFI.out.down hh1 hh2 (by rw [HQ.out, HE1.out, HE2.out]; exact hc))
        clear hc
        go_wp2_with fail
        go_roundw
        case rel => exact ⟨x, h, rfl, rfl, hs'.out, HN.out⟩
        case measure => simp [intOf] <;> omega
      · rw [decide_eq_false hc, Bool.not_false]
        have HN := Lib.hid (HFI.out.up hh1 hh2 (by rw [HQ.out, HE1.out, HE2.out]; exact hc))
        clear hc
        go_wp2_with fail
        go_roundw
        case rel => exact ⟨h + 1, y, by go_num, rfl, hs'.out, HN.out⟩
        case measure => simp [intOf] <;> omega
    · obtain rfl : x = y := by omega
      have hdec2 : decide ((x : Int) < (x : Int)) = false := by simp
      have HQ := Lib.hid (HFI.out.quart cmpD_ord ham hmb (by have := HMID.out; omega) HSR.out HL.out HR.out)
      obtain ⟨e, he⟩ : ∃ e, mid + m - x = e := ⟨_, rfl⟩
      have he2 : (mid : Int) + m - x = e := by omega
      have q1 := HQ.out.1
      have q2 := HQ.out.2.1
      have q3 := HQ.out.2.2.1
      have q4 : m ≤ e := by have := HQ.out.2.2.2.2.1; omega
      have q5 : e ≤ b := by have := HQ.out.2.2.2.2.2.1; omega
      have q6 : mid ≤ e := by have := HQ.out.2.2.2.2.2.2.1; omega
      have HE := Lib.hid he
      have HQU := Lib.hid HQ.out.2.2.2.2.2.2.2
      rw [he] at HQU
      have wq := IntWalk.i64_in (e : Int) (by omega)
      have hte : x + e = mid + m := by omega
      have HTE := Lib.hid hte
      clear hs hf hlt he hte HQ hdec2
      go_upto_region 39 with (fail)
      go_cut [185] (fun s wc => ∃ B : Bool, s = .bool B ∧ (B = true ↔ x < m ∧ m < e) ∧ wc = wr)
      case first => as_aux_lemma =>
        by_cases h1 : x < m
        · have hd : decide (x < m) = true := by simp; omega
          by_cases h2 : m < e
          · have hd2 : decide (m < e) = true := by simp; omega
            go_wp2_with fail
            go_meet
            exact ⟨true, rfl, by simp; omega, rfl⟩
          · have hd2 : decide (m < e) = false := by simp; omega
            have H2 := Lib.hid h2
            clear h2
            go_wp2_with fail
            go_meet
            exact ⟨false, rfl, by have := H2.out; simp; omega, rfl⟩
        · have hd : decide (x < m) = false := by simp; omega
          have H1 := Lib.hid h1
          clear h1
          go_wp2_with fail
          go_meet
          exact ⟨false, rfl, by have := H1.out; simp; omega, rfl⟩
      obtain ⟨B, rfl, hB, rfl⟩ := hcut
      have HB := Lib.hid hB
      clear hB
      go_upto_if 185 with (fail)
      go_cut [] (fun wc => ∃ l1, ST g cap F n w0 wc l1 ∧ SameOut l l1 x e ∧ ∀ k, dat l1 k = rotAt l x m e k)
      case first => as_aux_lemma =>
        cases B with
        | true =>
          have hb := HB.out.1 rfl
          go_wp2_with fail
          refine (rotate_any g cap F l w0 _ n HS.out x m e hb.1 hb.2 (by omega) _).mono ?_
          rintro r w1 ⟨rfl, l1, o1, o2, o3⟩
          have O := Lib.hid (And.intro o1 (And.intro o2 o3))
          clear o1 o2 o3
          go_wp2_with fail
          go_meet
          exact ⟨l1, O.out.1, O.out.2.1, O.out.2.2⟩
        | false =>
          have hb : ¬ (x < m ∧ m < e) := fun h => by have := HB.out.2 h; cases this
          have HBN := Lib.hid hb
          clear hb
          go_wp2_with fail
          go_meet
          refine ⟨l, HS.out, .refl _ _ _, fun k => ?_⟩
          by_cases hc : x < m
          · have hme : m = e := by have := HBN.out; omega
            rw [← hme, rotAt_right]
          · have hmx : x = m := by omega
            rw [hmx, rotAt_left q4]
      obtain ⟨l1, o1, o2, o3⟩ := hcut
      have OST := Lib.hid o1
      have OSO := Lib.hid o2
      have OQ := Lib.hid (HQU.out l1 o3)
      clear o1 o2 o3
      clear HB
      obtain ⟨wA, rfl⟩ : ∃ wA, wA = wc := ⟨_, rfl⟩
      go_upto_region 41 with (fail)
      go_cut [199] (fun s wc => ∃ B : Bool, s = .bool B ∧ (B = true ↔ a < x ∧ x < mid) ∧ wc = wA)
      case first => as_aux_lemma =>
        by_cases h1 : a < x
        · have hd : decide (a < x) = true := by simp; omega
          by_cases h2 : x < mid
          · have hd2 : decide (x < mid) = true := by simp; omega
            go_wp2_with fail
            go_meet
            exact ⟨true, rfl, by simp; omega, rfl⟩
          · have hd2 : decide (x < mid) = false := by simp; omega
            have H2 := Lib.hid h2
            clear h2
            go_wp2_with fail
            go_meet
            exact ⟨false, rfl, by have := H2.out; simp; omega, rfl⟩
        · have hd : decide (a < x) = false := by simp; omega
          have H1 := Lib.hid h1
          clear h1
          go_wp2_with fail
          go_meet
          exact ⟨false, rfl, by have := H1.out; simp; omega, rfl⟩
      obtain ⟨B, rfl, hB, rfl⟩ := hcut
      have HB := Lib.hid hB
      clear hB
      go_upto_if 199 with (fail)
      go_cut [] (fun wc => ∃ l2, ST g cap F n w0 wc l2 ∧ SameOut l1 l2 a mid ∧ SortedOn cmpD l2 a mid)
      case first => as_aux_lemma =>
        cases B with
        | true =>
          have hb := HB.out.1 rfl
          go_wp2_with fail
          refine (HI.out a x mid (by omega) l1 w0 _ OST.out hb.1 hb.2 (by omega) OQ.out.p1 OQ.out.p2).mono ?_
          rintro r w1 ⟨rfl, l2, o1, o2, o3⟩
          have O := Lib.hid (And.intro o1 (And.intro o2 o3))
          clear o1 o2 o3
          go_wp2_with fail
          go_meet
          exact ⟨l2, O.out.1, O.out.2.1, O.out.2.2⟩
        | false =>
          have hb : ¬ (a < x ∧ x < mid) := fun h => by have := HB.out.2 h; cases this
          have HBN := Lib.hid hb
          clear hb
          go_wp2_with fail
          go_meet
          exact ⟨l1, OST.out, .refl _ _ _, OQ.out.left_done HBN.out q1 q3⟩
      obtain ⟨l2, o1, o2, o3⟩ := hcut
      have PST := Lib.hid o1
      have PSO := Lib.hid o2
      have PSS := Lib.hid o3
      clear o1 o2 o3
      clear HB
      obtain ⟨wB, rfl⟩ : ∃ wB, wB = wc := ⟨_, rfl⟩
      go_upto_region 43 with (fail)
      go_cut [213] (fun s wc => ∃ B : Bool, s = .bool B ∧ (B = true ↔ mid < e ∧ e < b) ∧ wc = wB)
      case first => as_aux_lemma =>
        by_cases h1 : mid < e
        · have hd : decide (mid < e) = true := by simp; omega
          by_cases h2 : e < b
          · have hd2 : decide (e < b) = true := by simp; omega
            go_wp2_with fail
            go_meet
            exact ⟨true, rfl, by simp; omega, rfl⟩
          · have hd2 : decide (e < b) = false := by simp; omega
            have H2 := Lib.hid h2
            clear h2
            go_wp2_with fail
            go_meet
            exact ⟨false, rfl, by have := H2.out; simp; omega, rfl⟩
        · have hd : decide (mid < e) = false := by simp; omega
          have H1 := Lib.hid h1
          clear h1
          go_wp2_with fail
          go_meet
          exact ⟨false, rfl, by have := H1.out; simp; omega, rfl⟩
      obtain ⟨B, rfl, hB, rfl⟩ := hcut
      have HB := Lib.hid hB
      clear hB
      go_upto_if 213 with (fail)
      cases B with
      | true => as_aux_lemma =>
        have hb := HB.out.1 rfl
        go_wp2_with fail
        refine (HI.out mid e b (by omega) l2 w0 _ PST.out hb.1 hb.2 (by omega) (OQ.out.right_parts PSO.out q6).1 (OQ.out.right_parts PSO.out q6).2).mono ?_
        rintro r w1 ⟨rfl, l3, o1, o2, o3⟩
        have HF := Lib.hid (OQ.out.done (by omega) (by omega) PSO.out PSS.out o2 o3)
        have O := Lib.hid o1
        clear o1 o2 o3 hb
        go_wp2_with fail
        exact bodyPost_end (results_none rfl _ _ _) rfl ⟨rfl, l3, O.out, (OSO.out.wide q1 q5).trans HF.out.1, HF.out.2⟩
      | false => as_aux_lemma =>
        have hb : ¬ (mid < e ∧ e < b) := fun h => by have := HB.out.2 h; cases this
        have HF := Lib.hid (OQ.out.done (by omega) (by omega) PSO.out PSS.out (.refl _ _ _) (OQ.out.right_done PSO.out hb q6 q5))
        clear hb
        go_wp2_with fail
        exact bodyPost_end (results_none rfl _ _ _) rfl ⟨rfl, l2, PST.out, (OSO.out.wide q1 q5).trans HF.out.1, HF.out.2⟩

set_option maxHeartbeats 4000000 in
set_option maxRecDepth 100000 in
theorem symMerge_le (f : FuncId) (HF : CmpOK f) (g cap : Nat) (F : Nat → Prop) (n a m b : Nat) (hm1 : m ≠ a + 1) (hm2 : b ≠ m + 1) (hmm' : m ≤ (a + b) / 2) (IH : ∀ a' m' b', b' - a' < b - a → SymC f g cap F n a' m' b') : SymC f g cap F n a m b := by
  intro l w0 w st ham hmb hbn hL hR
  obtain ⟨hcap, hmax⟩ := st.caps
  have hsm := st.small
  have HST := Lib.hid st
  have HCMP := Lib.hid HF
  have HI := Lib.hid IH
  have e0 : ((m : Int) - a == 1) = false := by simp; omega
  have e1 : ((b : Int) - m == 1) = false := by simp; omega
  have HL := Lib.hid hL
  have HR := Lib.hid hR
  obtain ⟨mid, hmid⟩ : ∃ mid, (a + b) / 2 = mid := ⟨_, rfl⟩
  have hx1 : 0 ≤ (a : Int) + b := by omega
  have hx2 : (a : Int) + b < 9223372036854775808 := by omega
  have hx3 : ((a : Int) + b) / 2 = mid := by omega
  have d1 : 2 * mid ≤ a + b := by omega
  have d2 : a + b ≤ 2 * mid + 1 := by omega
  have HMID := Lib.hid hmid
  have dm1 : a < mid := by omega
  have dm2 : mid < b := by omega
  have hmm : m ≤ mid := by omega
  clear st HF hL hR hm1 hm2 IH hmid hmm'
  have wn := IntWalk.i64_in ((mid : Int) + m) (by omega)
  have wp := IntWalk.i64_in ((mid : Int) + m - 1) (by omega)
  obtain ⟨s0, r0, hsr, hsr2, hsr3, hsr4, hsr5⟩ : ∃ s0 r0 : Nat, ((mid < m ∧ s0 = mid + m - b ∧ r0 = mid) ∨ (m ≤ mid ∧ s0 = a ∧ r0 = m)) ∧ a ≤ s0 ∧ s0 ≤ r0 ∧ r0 ≤ m ∧ r0 ≤ mid := ⟨a, m, by omega, by omega, by omega, by omega, by omega⟩
  have hs05 : mid + m - r0 ≤ b ∧ mid + m - s0 ≤ b := by omega
  have HSR := Lib.hid hsr
  have SV : ((a : Int) : Int) = (s0 : Int) := by have := HSR.out; omega
  have RV : ((m : Int) : Int) = (r0 : Int) := by have := HSR.out; omega
  have HSV := Lib.hid SV
  have HRV := Lib.hid RV
  clear hsr SV RV d1 d2
  have hdec : decide (mid < m) = false := by simp; omega
  go_enter Tryz.func188, Tryz.ntmps188
  go_wp2_with fail
  go_loopw [20, 21] (fun i j wr => ∃ (x y : Nat), i = .int .i64 x ∧ j = .int .i64 y ∧ ST g cap F n w0 wr l ∧ Sm cmpD l (mid + m - 1) s0 r0 x y) (fun i j _ => (intOf j).toNat - (intOf i).toNat)
  case atStart => exact ⟨s0, r0, by first | rfl | (rw [← HSV.out]), by first | rfl | (rw [← HRV.out]), HST.out, Sm.start l _ hsr3⟩
  case round =>
    obtain ⟨x, y, rfl, rfl, hs, hf⟩ := hrel
    have f1 := hf.lo
    have f2 := hf.sr
    have f3 := hf.hi
    have HFI := Lib.hid hf
    have HS := Lib.hid hs
    by_cases hlt : x < y
    · as_aux_lemma =>
      obtain ⟨h, hh⟩ : ∃ h, (x + y) / 2 = h := ⟨_, rfl⟩
      have hh1 : x ≤ h := by omega
      have hh2 : h < y := by omega
      have hx1 : 0 ≤ (x : Int) + y := by omega
      have hx2 : (x : Int) + y < 9223372036854775808 := by omega
      have hx3 : ((x : Int) + y) / 2 = h := by omega
      obtain ⟨q, hq⟩ : ∃ q, mid + m - 1 - h = q := ⟨_, rfl⟩
      have hq1 : q < n := by omega
      have hb1 : h < n := by omega
      have hq2 : (mid : Int) + m - 1 - h = q := by omega
      have wq := IntWalk.i64_in (q : Int) (by omega)
      have HQ := Lib.hid hq
      obtain ⟨A1, m1, c1, r1, n1, e1, g1, p1, q1⟩ := hs.at_ (i := q) (by omega)
      obtain ⟨A2, m2, c2, r2, n2, e2, g2, p2, q2⟩ := hs.at_ (i := h) (by omega)
      have HCALL := Lib.hid (ST.cmp HCMP.out g1 g2)
      have HE1 := Lib.hid e1
      have HE2 := Lib.hid e2
      clear hs e1 e2 g1 g2 p1 p2 hf hh hq
      go_wp2_with fail
      refine Tab.wp_region_tab (Tab.Ext fun _ => False) (by kernel_rfl) (by kernel_rfl) (fun _ => Tab.Ext.refl _ _) (fun _ _ _ h k => h.trans k) ?_
      iterate 11 (first | (refine Tab.tab_moveE _ rfl (Tab.silent_true _) (.inl rfl) rfl rfl (fun _ => Tab.Ext.refl _ _) ?_; apply Exists.intro; refine And.intro ?_ ?_; focus (simp [Tab.Env.ev, Tab.Env.get]; rfl)) | (refine Tab.tab_moveE _ rfl (Tab.silent_true _) (.inr rfl) rfl rfl (fun _ => Tab.Ext.refl _ _) ?_; apply Exists.intro; refine And.intro ?_ ?_; focus (simp [Tab.Env.ev, Tab.Env.get]; rfl)) | refine Tab.tab_skip rfl (Tab.silent_true _) rfl ?_ | (refine Tab.tab_repE rfl (Tab.silent_true _) rfl (fun _ _ h => by cases h) rfl (fun _ => Tab.Ext.refl _ _) ?_; apply Exists.intro; refine And.intro (fun l w' _ _ hw => ?_) ?_; focus (go_simp; rfl)) | (refine Tab.tab_repE rfl (Tab.silent_true _) rfl (fun _ _ h => by cases h) rfl (fun _ => Tab.Ext.refl _ _) ?_; apply Exists.intro; refine And.intro (fun l w' hs hc hw => ?_) ?_; focus (go_simp; rfl)))
      refine Tab.tab_callv (f := f) (.int .i64 (cmpD ⟨.slice A1 m1 c1, r1, n1⟩ ⟨.slice A2 m2 c2, r2, n2⟩)) rfl rfl rfl rfl rfl HCMP.out.cf rfl (fun l_ w' _ _ _ hw => ?_) ?_
      · show Calls _ _ #[DE.val ⟨.slice A1 m1 c1, r1, n1⟩, DE.val ⟨.slice A2 m2 c2, r2, n2⟩] w' _
        refine (HCALL.out w' hw).mono ?_
        rintro e_ w_ ⟨rfl, hb_⟩
        exact ⟨rfl, Tab.Ext.of_below hb_, trivial⟩
      iterate 2 (first | (refine Tab.tab_moveE _ rfl (Tab.silent_true _) (.inl rfl) rfl rfl (fun _ => Tab.Ext.refl _ _) ?_; apply Exists.intro; refine And.intro ?_ ?_; focus (simp [Tab.Env.ev, Tab.Env.get]; rfl)) | (refine Tab.tab_moveE _ rfl (Tab.silent_true _) (.inr rfl) rfl rfl (fun _ => Tab.Ext.refl _ _) ?_; apply Exists.intro; refine And.intro ?_ ?_; focus (simp [Tab.Env.ev, Tab.Env.get]; rfl)) | refine Tab.tab_skip rfl (Tab.silent_true _) rfl ?_ | (refine Tab.tab_repE rfl (Tab.silent_true _) rfl (fun _ _ h => by cases h) rfl (fun _ => Tab.Ext.refl _ _) ?_; apply Exists.intro; refine And.intro (fun l w' _ _ hw => ?_) ?_; focus (go_simp; rfl)) | (refine Tab.tab_repE rfl (Tab.silent_true _) rfl (fun _ _ h => by cases h) rfl (fun _ => Tab.Ext.refl _ _) ?_; apply Exists.intro; refine And.intro (fun l w' hs hc hw => ?_) ?_; focus (go_simp; rfl)))
      intro a_ w_ hw_ hsat_
      refine Tab.fin_of_sat rfl ?_ hsat_
      simp only [Tab.fin, Act.put, List.setIfInBounds_toArray, List.set_cons_succ, List.set_cons_zero]
      have hs' := Lib.hid (HS.out.laterd hw_)
      clear hsat_ hw_ q1 q2 HCALL
      by_cases hc : cmpD ⟨.slice A1 m1 c1, r1, n1⟩ ⟨.slice A2 m2 c2, r2, n2⟩ < 0
      · rw [decide_eq_true hc, Bool.not_true]
        have HN := Lib.hid (HFI.out.down hh1 hh2 (by rw [HQ.out, HE1.out, HE2.out]; exact hc))
        clear hc
        go_wp2_with fail
        go_roundw
        case rel => exact ⟨x, h, rfl, rfl, hs'.out, HN.out⟩
        case measure => simp [intOf] <;> omega
      · rw [decide_eq_false hc, Bool.not_false]
        have HN := Lib.hid (HFI.out.up hh1 hh2 (by rw [HQ.out, HE1.out, HE2.out]; exact hc))
        clear hc
        go_wp2_with fail
        go_roundw
        case rel => exact ⟨h + 1, y, by go_num, rfl, hs'.out, HN.out⟩
        case measure => simp [intOf] <;> omega
    · obtain rfl : x = y := by omega
      have hdec2 : decide ((x : Int) < (x : Int)) = false := by simp
      have HQ := Lib.hid (HFI.out.quart cmpD_ord ham hmb (by have := HMID.out; omega) HSR.out HL.out HR.out)
      obtain ⟨e, he⟩ : ∃ e, mid + m - x = e := ⟨_, rfl⟩
      have he2 : (mid : Int) + m - x = e := by omega
      have q1 := HQ.out.1
      have q2 := HQ.out.2.1
      have q3 := HQ.out.2.2.1
      have q4 : m ≤ e := by have := HQ.out.2.2.2.2.1; omega
      have q5 : e ≤ b := by have := HQ.out.2.2.2.2.2.1; omega
      have q6 : mid ≤ e := by have := HQ.out.2.2.2.2.2.2.1; omega
      have HE := Lib.hid he
      have HQU := Lib.hid HQ.out.2.2.2.2.2.2.2
      rw [he] at HQU
      have wq := IntWalk.i64_in (e : Int) (by omega)
      have hte : x + e = mid + m := by omega
      have HTE := Lib.hid hte
      clear hs hf hlt he hte HQ hdec2
      go_upto_region 39 with (fail)
      go_cut [185] (fun s wc => ∃ B : Bool, s = .bool B ∧ (B = true ↔ x < m ∧ m < e) ∧ wc = wr)
      case first => as_aux_lemma =>
        by_cases h1 : x < m
        · have hd : decide (x < m) = true := by simp; omega
          by_cases h2 : m < e
          · have hd2 : decide (m < e) = true := by simp; omega
            go_wp2_with fail
            go_meet
            exact ⟨true, rfl, by simp; omega, rfl⟩
          · have hd2 : decide (m < e) = false := by simp; omega
            have H2 := Lib.hid h2
            clear h2
            go_wp2_with fail
            go_meet
            exact ⟨false, rfl, by have := H2.out; simp; omega, rfl⟩
        · have hd : decide (x < m) = false := by simp; omega
          have H1 := Lib.hid h1
          clear h1
          go_wp2_with fail
          go_meet
          exact ⟨false, rfl, by have := H1.out; simp; omega, rfl⟩
      obtain ⟨B, rfl, hB, rfl⟩ := hcut
      have HB := Lib.hid hB
      clear hB
      go_upto_if 185 with (fail)
      go_cut [] (fun wc => ∃ l1, ST g cap F n w0 wc l1 ∧ SameOut l l1 x e ∧ ∀ k, dat l1 k = rotAt l x m e k)
      case first => as_aux_lemma =>
        cases B with
        | true =>
          have hb := HB.out.1 rfl
          go_wp2_with fail
          refine (rotate_any g cap F l w0 _ n HS.out x m e hb.1 hb.2 (by omega) _).mono ?_
          rintro r w1 ⟨rfl, l1, o1, o2, o3⟩
          have O := Lib.hid (And.intro o1 (And.intro o2 o3))
          clear o1 o2 o3
          go_wp2_with fail
          go_meet
          exact ⟨l1, O.out.1, O.out.2.1, O.out.2.2⟩
        | false =>
          have hb : ¬ (x < m ∧ m < e) := fun h => by have := HB.out.2 h; cases this
          have HBN := Lib.hid hb
          clear hb
          go_wp2_with fail
          go_meet
          refine ⟨l, HS.out, .refl _ _ _, fun k => ?_⟩
          by_cases hc : x < m
          · have hme : m = e := by have := HBN.out; omega
            rw [← hme, rotAt_right]
          · have hmx : x = m := by omega
            rw [hmx, rotAt_left q4]
      obtain ⟨l1, o1, o2, o3⟩ := hcut
      have OST := Lib.hid o1
      have OSO := Lib.hid o2
      have OQ := Lib.hid (HQU.out l1 o3)
      clear o1 o2 o3
      clear HB
      obtain ⟨wA, rfl⟩ : ∃ wA, wA = wc := ⟨_, rfl⟩
      go_upto_region 41 with (fail)
      go_cut [199] (fun s wc => ∃ B : Bool, s = .bool B ∧ (B = true ↔ a < x ∧ x < mid) ∧ wc = wA)
      case first => as_aux_lemma =>
        by_cases h1 : a < x
        · have hd : decide (a < x) = true := by simp; omega
          by_cases h2 : x < mid
          · have hd2 : decide (x < mid) = true := by simp; omega
            go_wp2_with fail
            go_meet
            exact ⟨true, rfl, by simp; omega, rfl⟩
          · have hd2 : decide (x < mid) = false := by simp; omega
            have H2 := Lib.hid h2
            clear h2
            go_wp2_with fail
            go_meet
            exact ⟨false, rfl, by have := H2.out; simp; omega, rfl⟩
        · have hd : decide (a < x) = false := by simp; omega
          have H1 := Lib.hid h1
          clear h1
          go_wp2_with fail
          go_meet
          exact ⟨false, rfl, by have := H1.out; simp; omega, rfl⟩
      obtain ⟨B, rfl, hB, rfl⟩ := hcut
      have HB := Lib.hid hB
      clear hB
      go_upto_if 199 with (fail)
      go_cut [] (fun wc => ∃ l2, ST g cap F n w0 wc l2 ∧ SameOut l1 l2 a mid ∧ SortedOn cmpD l2 a mid)
      case first => as_aux_lemma =>
        cases B with
        | true =>
          have hb := HB.out.1 rfl
          go_wp2_with fail
          refine (HI.out a x mid (by omega) l1 w0 _ OST.out hb.1 hb.2 (by omega) OQ.out.p1 OQ.out.p2).mono ?_
          rintro r w1 ⟨rfl, l2, o1, o2, o3⟩
          have O := Lib.hid (And.intro o1 (And.intro o2 o3))
          clear o1 o2 o3
          go_wp2_with fail
          go_meet
          exact ⟨l2, O.out.1, O.out.2.1, O.out.2.2⟩
        | false =>
          have hb : ¬ (a < x ∧ x < mid) := fun h => by have := HB.out.2 h; cases this
          have HBN := Lib.hid hb
          clear hb
          go_wp2_with fail
          go_meet
          exact ⟨l1, OST.out, .refl _ _ _, OQ.out.left_done HBN.out q1 q3⟩
      obtain ⟨l2, o1, o2, o3⟩ := hcut
      have PST := Lib.hid o1
      have PSO := Lib.hid o2
      have PSS := Lib.hid o3
      clear o1 o2 o3
      clear HB
      obtain ⟨wB, rfl⟩ : ∃ wB, wB = wc := ⟨_, rfl⟩
      go_upto_region 43 with (fail)
      go_cut [213] (fun s wc => ∃ B : Bool, s = .bool B ∧ (B = true ↔ mid < e ∧ e < b) ∧ wc = wB)
      case first => as_aux_lemma =>
        by_cases h1 : mid < e
        · have hd : decide (mid < e) = true := by simp; omega
          by_cases h2 : e < b
          · have hd2 : decide (e < b) = true := by simp; omega
            go_wp2_with fail
            go_meet
            exact ⟨true, rfl, by simp; omega, rfl⟩
          · have hd2 : decide (e < b) = false := by simp; omega
            have H2 := Lib.hid h2
            clear h2
            go_wp2_with fail
            go_meet
            exact ⟨false, rfl, by have := H2.out; simp; omega, rfl⟩
        · have hd : decide (mid < e) = false := by simp; omega
          have H1 := Lib.hid h1
          clear h1
          go_wp2_with fail
          go_meet
          exact ⟨false, rfl, by have := H1.out; simp; omega, rfl⟩
      obtain ⟨B, rfl, hB, rfl⟩ := hcut
      have HB := Lib.hid hB
      clear hB
      go_upto_if 213 with (fail)
      cases B with
      | true => as_aux_lemma =>
        have hb := HB.out.1 rfl
        go_wp2_with fail
        refine (HI.out mid e b (by omega) l2 w0 _ PST.out hb.1 hb.2 (by omega) (OQ.out.right_parts PSO.out q6).1 (OQ.out.right_parts PSO.out q6).2).mono ?_
        rintro r w1 ⟨rfl, l3, o1, o2, o3⟩
        have HF := Lib.hid (OQ.out.done (by omega) (by omega) PSO.out PSS.out o2 o3)
        have O := Lib.hid o1
        clear o1 o2 o3 hb
        go_wp2_with fail
        exact bodyPost_end (results_none rfl _ _ _) rfl ⟨rfl, l3, O.out, (OSO.out.wide q1 q5).trans HF.out.1, HF.out.2⟩
      | false => as_aux_lemma =>
        have hb : ¬ (mid < e ∧ e < b) := fun h => by have := HB.out.2 h; cases this
        have HF := Lib.hid (OQ.out.done (by omega) (by omega) PSO.out PSS.out (.refl _ _ _) (OQ.out.right_done PSO.out hb q6 q5))
        clear hb
        go_wp2_with fail
        exact bodyPost_end (results_none rfl _ _ _) rfl ⟨rfl, l2, PST.out, (OSO.out.wide q1 q5).trans HF.out.1, HF.out.2⟩

theorem symMerge_all (f : FuncId) (HF : CmpOK f) (g cap : Nat) (F : Nat → Prop) (n : Nat) : ∀ (d a m b : Nat), b - a < d → SymC f g cap F n a m b
  | 0, a, m, b, h => by omega
  | d + 1, a, m, b, h => by
    by_cases h1 : m = a + 1
    · exact symMerge_one f HF g cap F n a m b h1
    · by_cases h2 : b = m + 1
      · exact symMerge_last f HF g cap F n a m b h1 h2
      · have IH : ∀ a' m' b', b' - a' < b - a → SymC f g cap F n a' m' b' := fun a' m' b' h' => symMerge_all f HF g cap F n d a' m' b' (by omega)
        by_cases h3 : (a + b) / 2 < m
        · exact symMerge_gt f HF g cap F n a m b h1 h2 h3 IH
        · exact symMerge_le f HF g cap F n a m b h1 h2 (by omega) IH
theorem symMerge_any (f : FuncId) (HF : CmpOK f) (g cap : Nat) (F : Nat → Prop) (n a m b : Nat) : SymC f g cap F n a m b := symMerge_all f HF g cap F n _ a m b (Nat.lt_succ_self _)
end Go.Proofs.YthejmnmkbldacaaGreatDoor

namespace Go.Proofs.YthejmnmkbldacaaGreatDoor
open Go.RowKit
attribute [local go_sem] Tab.Env.ev Tab.Env.get

def InBlocks (l : List DE) (s n : Nat) : Prop := ∀ k, k + 1 < n → (k + 1) % s ≠ 0 → cmpD (dat l k) (dat l (k + 1)) ≤ 0
theorem Blocks.ofIn {l : List DE} {s n : Nat} (h : InBlocks l s n) : Blocks cmpD l (2 * s) s 0 n := fun k k1 k2 => h k k1 (by rw [if_neg (by omega)] at k2; exact k2)
theorem Blocks.toIn {l : List DE} {s n : Nat} (h : Blocks cmpD l (2 * s) s n n) : InBlocks l (s * 2) n := fun k k1 k2 => h k k1 (by rw [if_pos k1, Nat.mul_comm 2 s]; exact k2)
theorem Blocks.tail {l : List DE} {s u a n : Nat} (h : Blocks cmpD l (2 * s) s a n) (ha : a = 2 * s * u) (hn : n ≤ a + s) : InBlocks l (s * 2) n := fun k k1 k2 => by
  by_cases c1 : k + 1 < a
  · exact h k k1 (by rw [if_pos c1, Nat.mul_comm 2 s]; exact k2)
  · by_cases c2 : k + 1 = a
    · exfalso
      rw [c2, ha, Nat.mul_comm s 2, Nat.mul_mod_right] at k2
      exact k2 rfl
    · refine h k k1 ?_
      rw [if_neg c1]
      have e : 2 * s * u = s * (2 * u) := by rw [Nat.mul_comm 2 s, Nat.mul_assoc]
      exact mod_in (u := 2 * u) (by omega) (by omega)
theorem InBlocks.all {l : List DE} {s n : Nat} (h : InBlocks l s n) (hs : n ≤ s) : SortedOn cmpD l 0 n := fun k _ k1 => h k k1 (by rw [Nat.mod_eq_of_lt (by omega)]; omega)

set_option maxHeartbeats 4000000 in
set_option maxRecDepth 100000 in
theorem stable_any (f : FuncId) (HF : CmpOK f) (g cap : Nat) (F : Nat → Prop) (l : List DE) (w0 w : World) (n : Nat) (st : ST g cap F n w0 w l) :
    Calls Tryz.prog 149 #[.slice (some ⟨g, 0, none⟩) n cap, .int .i64 n, .func (.func f) #[] #[]] w fun e w' => e = .returned (.tuple #[]) ∧ ∃ l', ST g cap F n w0 w' l' ∧ SameOut l l' 0 n ∧ SortedOn cmpD l' 0 n := by
  obtain ⟨hcap, hmax⟩ := st.caps
  have hsm := st.small
  have HST := Lib.hid st
  have HCMP := Lib.hid HF
  clear st HF
  go_enter Tryz.func149, Tryz.ntmps149
  go_wp2_with fail
  go_loopw [7, 8] (fun a b wr => ∃ (A u : Nat) (l' : List DE), a = .int .i64 A ∧ b = .int .i64 (A + 20) ∧ Hid (A = 20 * u) ∧ A ≤ n ∧ ST g cap F n w0 wr l' ∧ SameOut l l' 0 n ∧ InBlocks l' 20 A) (fun a b _ => n + 20 - (intOf b).toNat)
  case atStart => exact ⟨0, 0, l, rfl, rfl, Lib.hid rfl, Nat.zero_le _, HST.out, .refl _ _ _, fun k h => by omega⟩
  case round =>
    obtain ⟨A, u, l1, rfl, rfl, HA, hA, hs, hso, hin⟩ := hrel
    have HS := Lib.hid hs
    have HSO := Lib.hid hso
    have HIN := Lib.hid hin
    clear hs hso hin
    by_cases hlt : A + 20 ≤ n
    · go_wp2_with fail
      rw [show (A : Int) + 20 = ((A + 20 : Nat) : Int) by omega]
      refine (insertion_any f HCMP.out g cap F l1 w0 _ n HS.out A (A + 20) (by omega) hlt).mono ?_
      rintro e w1 ⟨rfl, l2, o1, o2, o3⟩
      have O1 := Lib.hid o1
      have O2 := Lib.hid (HSO.out.trans (o2.wide (Nat.zero_le _) hlt))
      have O3 := Lib.hid (show InBlocks l2 20 (A + 20) from Blocks.insert (s := 20) (u := u) HA.out o2 o3 HIN.out)
      have HA2 := Lib.hid (show A + 20 = 20 * (u + 1) by have := HA.out; omega)
      clear o1 o2 o3
      go_wp2_with fail
      go_roundw
      case rel => exact ⟨A + 20, u + 1, l2, by go_num, by go_num, HA2, hlt, O1.out, O2.out, O3.out⟩
      case measure => simp [intOf] <;> omega
    · go_wp2_with fail
      refine (insertion_any f HCMP.out g cap F l1 w0 _ n HS.out A n hA (Nat.le_refl _)).mono ?_
      rintro e w1 ⟨rfl, l2, o1, o2, o3⟩
      have O1 := Lib.hid o1
      have O2 := Lib.hid (HSO.out.trans (o2.wide (Nat.zero_le _) (Nat.le_refl _)))
      have O3 := Lib.hid (show InBlocks l2 20 n from Blocks.insert (s := 20) (u := u) HA.out o2 o3 HIN.out)
      clear o1 o2 o3 HS HSO HIN
      go_wp2_with fail
      go_loopw [6, 7, 8, 9] (fun bs _ _ _ wr => ∃ (s : Nat) (l' : List DE), bs = .int .i64 s ∧ 0 < s ∧ s ≤ 2 * n + 40 ∧ ST g cap F n w0 wr l' ∧ SameOut l l' 0 n ∧ InBlocks l' s n) (fun bs _ _ _ _ => n - (intOf bs).toNat)
      case atStart => exact ⟨20, l2, rfl, by omega, by omega, O1.out, O2.out, O3.out⟩
      case round =>
        clear O1 O2 O3
        obtain ⟨s, l3, rfl, hs0, hs1, hs, hso, hin⟩ := hrel
        have HS := Lib.hid hs
        have HSO := Lib.hid hso
        have HIN := Lib.hid hin
        clear hs hso hin
        by_cases hlt : s < n
        · go_wp2_with fail
          obtain ⟨wo, rfl⟩ : ∃ wo : World, wo = wr := ⟨_, rfl⟩
          go_loopw [7, 8] (fun a b wr => ∃ (A u : Nat) (l' : List DE), a = .int .i64 A ∧ b = .int .i64 (A + 2 * s) ∧ Hid (A = 2 * s * u) ∧ A ≤ n ∧ ST g cap F n w0 wr l' ∧ SameOut l l' 0 n ∧ Blocks cmpD l' (2 * s) s A n) (fun a b _ => n + 2 * s - (intOf b).toNat)
          case atStart => exact ⟨0, 0, l3, rfl, by go_num, Lib.hid rfl, Nat.zero_le _, HS.out, HSO.out, Blocks.ofIn HIN.out⟩
          case round =>
            clear HS HSO HIN
            obtain ⟨A, u, l4, rfl, rfl, HA, hA, hs, hso, hin⟩ := hrel
            have HS := Lib.hid hs
            have HSO := Lib.hid hso
            have HIN := Lib.hid hin
            clear hs hso hin
            by_cases hlt2 : A + 2 * s ≤ n
            · go_wp2_with fail
              have hp := HIN.out.parts HA.out (b := A + 2 * s) (Nat.le_refl _) hlt2 (by omega)
              rw [show (A : Int) + s = ((A + s : Nat) : Int) by omega, show (A : Int) + 2 * s = ((A + 2 * s : Nat) : Int) by omega]
              refine (symMerge_any f HCMP.out g cap F n A (A + s) (A + 2 * s) l4 w0 _ HS.out (by omega) (by omega) hlt2 hp.1 hp.2).mono ?_
              rintro e w1 ⟨rfl, l5, o1, o2, o3⟩
              have O1 := Lib.hid o1
              have O2 := Lib.hid (HSO.out.trans (o2.wide (Nat.zero_le _) hlt2))
              have O3 := Lib.hid (HIN.out.merge HA.out (by omega) (.inl rfl) o2 o3)
              have HA2 := Lib.hid (show A + 2 * s = 2 * s * (u + 1) by have := HA.out; rw [Nat.mul_succ]; omega)
              clear o1 o2 o3 hp
              go_wp2_with fail
              go_roundw
              case rel => exact ⟨A + 2 * s, u + 1, l5, by go_num, by go_num, HA2, hlt2, O1.out, O2.out, O3.out⟩
              case measure => simp [intOf] <;> omega
            · by_cases hlt3 : A + s < n
              · go_wp2_with fail
                have hp := HIN.out.parts HA.out (b := n) (by omega) (Nat.le_refl _) (by omega)
                rw [show (A : Int) + s = ((A + s : Nat) : Int) by omega]
                refine (symMerge_any f HCMP.out g cap F n A (A + s) n l4 w0 _ HS.out (by omega) hlt3 (Nat.le_refl _) hp.1 hp.2).mono ?_
                rintro e w1 ⟨rfl, l5, o1, o2, o3⟩
                have O1 := Lib.hid o1
                have O2 := Lib.hid (HSO.out.trans (o2.wide (Nat.zero_le _) (Nat.le_refl _)))
                have O3 := Lib.hid (Blocks.toIn (HIN.out.merge HA.out hA (.inr rfl) o2 o3))
                clear o1 o2 o3 hp
                go_wp2_with fail
                go_roundw
                case rel => exact ⟨s * 2, l5, by go_num, by omega, by omega, O1.out, O2.out, O3.out⟩
                case measure => simp [intOf] <;> omega
              · go_wp2_with fail
                have O3 := Lib.hid (HIN.out.tail HA.out (by omega))
                go_roundw
                case rel => exact ⟨s * 2, l4, by go_num, by omega, by omega, HS.out, HSO.out, O3.out⟩
                case measure => simp [intOf] <;> omega
        · go_wp2_with fail
          exact bodyPost_end (results_none rfl _ _ _) rfl ⟨rfl, l3, HS.out, HSO.out, HIN.out.all (by omega)⟩

set_option maxHeartbeats 400000 in
theorem sortStable_any (f : FuncId) (HF : CmpOK f) (g cap : Nat) (F : Nat → Prop) (l : List DE) (w : World) (hown : OwnD w g cap l) (hs : l.length < 1073741824) (hg : ∀ d, d ∈ l → d.good w F) (hF : ∀ b, F b → b ≠ g) :
    Calls Tryz.prog 112 #[.slice (some ⟨g, 0, none⟩) l.length cap, .func (.func f) #[] #[]] w fun e w' => e = .returned (.tuple #[]) ∧ ∃ l', ST g cap F l.length w w' l' ∧ l'.Perm l ∧ SortedOn cmpD l' 0 l.length := by
  have HC := Lib.hid (stable_any f HF g cap F l w w l.length (ST.start hown hs hg hF))
  go_enter Tryz.func112, Tryz.ntmps112
  go_wp2_with fail
  refine HC.out.mono ?_
  rintro e w1 ⟨rfl, l', o1, o2, o3⟩
  have O := Lib.hid (And.intro o1 (And.intro o2.perm o3))
  clear o1 o2 o3 HC
  go_wp2_with fail
  exact bodyPost_end (results_none rfl _ _ _) rfl ⟨rfl, l', O.out⟩
end Go.Proofs.YthejmnmkbldacaaGreatDoor
