/-
  What is proved: rotate lets two neighbouring parts of a row of differences change places; insertionSort sorts a part. Conditions: none.
  What is proved: symMerge where its first part is one difference. Conditions: none.
  What is proved: symMerge where its second part is one difference. Conditions: none.
-/
import Derived.Test.YthejmnmkbldacaaGreatDoorGm14
import Derived.Test.YthejmnmkbldacaaGreatDoorGm12
set_option linter.all false
namespace Go.Proofs.YthejmnmkbldacaaGreatDoor
open Go.RowKit
attribute [local go_sem] Tab.Env.ev Tab.Env.get

set_option maxHeartbeats 2000000 in
theorem rotate_any (g cap : Nat) (F : Nat → Prop) (l : List DE) (w0 w : World) (n : Nat) (st : ST g cap F n w0 w l) (a m b : Nat) (ham : a < m) (hmb : m < b) (hb : b ≤ n) (fv : Value) :
    Calls Tryz.prog 220 #[.slice (some ⟨g, 0, none⟩) n cap, .int .i64 a, .int .i64 m, .int .i64 b, fv] w fun e w' => e = .returned (.tuple #[]) ∧ ∃ l', ST g cap F n w0 w' l' ∧ SameOut l l' a b ∧ ∀ k, dat l' k = rotAt l a m b k := by
  obtain ⟨hcap, hmax⟩ := st.caps
  have hsm := st.small
  have HST := Lib.hid st
  clear st
  go_enter Tryz.func220, Tryz.ntmps220
  go_wp2_with fail
  go_loopw [10, 11] (fun i j wr => ∃ (x y : Nat) (l' : List DE), 0 < x ∧ 0 < y ∧ x ≤ m - a ∧ y ≤ b - m ∧ i = .int .i64 x ∧ j = .int .i64 y ∧ ST g cap F n w0 wr l' ∧ Rot l l' a m b x y) (fun i j _ => (intOf i).toNat + (intOf j).toNat)
  case atStart => exact ⟨m - a, b - m, l, by omega, by omega, by omega, by omega, by congr 1; omega, by congr 1; omega, HST.out, Rot.start _ (by omega) (by omega)⟩
  case round =>
    obtain ⟨x, y, l', hx, hy, hxm, hyb, rfl, rfl, hs, hr⟩ := hrel
    have HS := Lib.hid hs
    have HR := Lib.hid hr
    clear hs hr
    have gx : (0 : Int) ≤ (m : Int) - x := by omega
    by_cases hxy : x = y
    · subst hxy
      have e0 : ((x : Int) != (x : Int)) = false := by simp
      go_wp2_with fail
      rw [show (m : Int) - x = ((m - x : Nat) : Int) by omega]
      refine (swapRange_any g cap F l' w0 wr n HS.out (m - x) m x (by omega) (by omega) fv).mono ?_
      rintro e w1 ⟨rfl, l'', hs', hsw⟩
      have hfin := HR.out.last (by omega) (by omega) hsw
      have HF := Lib.hid hfin
      clear hfin hsw
      go_wp2_with fail
      exact bodyPost_end (results_none rfl _ _ _) rfl ⟨rfl, l'', hs', HF.out⟩
    · have e0 : ((x : Int) != (y : Int)) = true := by simp; omega
      by_cases hlt : y < x
      · go_wp2_with fail
        rw [show (m : Int) - x = ((m - x : Nat) : Int) by omega]
        refine (swapRange_any g cap F l' w0 wr n HS.out (m - x) m y (by omega) (by omega) fv).mono ?_
        rintro e w1 ⟨rfl, l'', hs', hsw⟩
        have HS' := Lib.hid hs'
        have HR' := Lib.hid (HR.out.left (by omega) (by omega) hlt hsw)
        clear hs' hsw
        go_wp2_with fail
        go_roundw
        case rel => exact ⟨x - y, y, l'', by omega, by omega, by omega, by omega, by congr 1; omega, rfl, HS'.out, HR'.out⟩
        case measure => simp [intOf] <;> omega
      · have hlt' : x < y := by omega
        go_wp2_with fail
        rw [show (m : Int) - x = ((m - x : Nat) : Int) by omega, show (m : Int) + y - x = ((m + y - x : Nat) : Int) by omega]
        refine (swapRange_any g cap F l' w0 wr n HS.out (m - x) (m + y - x) x (by omega) (by omega) fv).mono ?_
        rintro e w1 ⟨rfl, l'', hs', hsw⟩
        have HS' := Lib.hid hs'
        have HR' := Lib.hid (HR.out.right (by omega) (by omega) hlt' hsw)
        clear hs' hsw
        go_wp2_with fail
        go_roundw
        case rel => exact ⟨x, y - x, l'', by omega, by omega, by omega, by omega, rfl, by congr 1; omega, HS'.out, HR'.out⟩
        case measure => simp [intOf] <;> omega

/-- the comparison of what lies at two places -/
theorem ST.cmp {F : Nat → Prop} {wr : World} {f : FuncId} (HF : CmpOK f) {d e : DE} (h1 : d.good wr F) (h2 : e.good wr F) :
    ∀ w', Tab.Ext (fun _ => False) wr.drew w' → Calls Tryz.prog f #[d.val, e.val] w' fun r w'' => r = .returned (.int .i64 (cmpD d e)) ∧ Below w'.heap.size w' w'' :=
  fun w' hw => HF.calls F F d e w' (h1.ext (M := fun _ => False) ((Tab.Ext.refl _ wr).drew.trans hw) (fun _ _ => id)) (h2.ext (M := fun _ => False) ((Tab.Ext.refl _ wr).drew.trans hw) (fun _ _ => id))

set_option maxHeartbeats 2000000 in
theorem insertion_any (f : FuncId) (HF : CmpOK f) (g cap : Nat) (F : Nat → Prop) (l : List DE) (w0 w : World) (n : Nat) (st : ST g cap F n w0 w l) (a b : Nat) (hab : a ≤ b) (hb : b ≤ n) :
    Calls Tryz.prog 187 #[.slice (some ⟨g, 0, none⟩) n cap, .int .i64 a, .int .i64 b, .func (.func f) #[] #[]] w fun e w' => e = .returned (.tuple #[]) ∧ ∃ l', ST g cap F n w0 w' l' ∧ SameOut l l' a b ∧ SortedOn cmpD l' a b := by
  obtain ⟨hcap, hmax⟩ := st.caps
  have hsm := st.small
  have HST := Lib.hid st
  have HCMP := Lib.hid HF
  clear st HF
  go_enter Tryz.func187, Tryz.ntmps187
  go_wp2_with fail
  go_loopw [8, 9] (fun i _ wr => ∃ (k : Nat) (l' : List DE), a + 1 ≤ k ∧ (k ≤ b ∨ k = a + 1) ∧ i = .int .i64 k ∧ ST g cap F n w0 wr l' ∧ SameOut l l' a b ∧ SortedOn cmpD l' a k) (fun i _ _ => b - (intOf i).toNat)
  case atStart => exact ⟨a + 1, l, Nat.le_refl _, .inr rfl, by go_num, HST.out, .refl _ _ _, fun k h1 h2 => by omega⟩
  case round =>
    obtain ⟨k, l', hk1, hk2, rfl, hs, hso, hor⟩ := hrel
    have HS := Lib.hid hs
    have HSO := Lib.hid hso
    have HOR := Lib.hid hor
    clear hs hso hor
    by_cases hlt : k < b
    · go_wp2_with fail
      go_loopw [9] (fun j wq => ∃ (jn : Nat) (lj : List DE), j = .int .i64 jn ∧ ST g cap F n w0 wq lj ∧ Ins cmpD l' lj a k jn) (fun j _ => (intOf j).toNat)
      case atStart => exact ⟨k, l', rfl, HS.out, Ins.start HOR.out (by omega)⟩
      case round =>
        obtain ⟨jn, lj, rfl, hs, hins⟩ := hrel
        have hj1 := hins.lo
        have hj2 := hins.hi
        have HINS := Lib.hid hins
        by_cases hja : a < jn
        · obtain ⟨j, rfl⟩ : ∃ j, jn = j + 1 := ⟨jn - 1, by omega⟩
          obtain ⟨A1, m1, c1, r1, n1, e1, g1, p1, q1⟩ := hs.at_ (i := j + 1) (by omega)
          obtain ⟨A2, m2, c2, r2, n2, e2, g2, p2, q2⟩ := hs.at_ (i := j) (by omega)
          have HLEN := Lib.hid hs.len
          have HS' := Lib.hid hs
          have HCALL := Lib.hid (ST.cmp HCMP.out g1 g2)
          have hjn : (0 : Int) ≤ (j : Int) + 1 ∧ (j : Int) + 1 < (n : Int) := by omega
          have hjn' : j < n := by omega
          have wj := IntWalk.i64_in (j : Int) (by omega)
          have hdec : decide ((a : Int) < (j : Int) + 1) = true := by simp; omega
          have HE1 := Lib.hid e1
          have HE2 := Lib.hid e2
          clear hs e1 e2 g1 g2 p1 p2 hins
          go_wp2_with fail
          refine Tab.wp_region_tab (Tab.Ext fun _ => False) (by kernel_rfl) (by kernel_rfl) (fun _ => Tab.Ext.refl _ _) (fun _ _ _ h k => h.trans k) ?_
          iterate 14 (first | (refine Tab.tab_moveE _ rfl (Tab.silent_true _) (.inl rfl) rfl rfl (fun _ => Tab.Ext.refl _ _) ?_; apply Exists.intro; refine And.intro ?_ ?_; focus (simp [Tab.Env.ev, Tab.Env.get]; rfl)) | (refine Tab.tab_moveE _ rfl (Tab.silent_true _) (.inr rfl) rfl rfl (fun _ => Tab.Ext.refl _ _) ?_; apply Exists.intro; refine And.intro ?_ ?_; focus (simp [Tab.Env.ev, Tab.Env.get]; rfl)) | refine Tab.tab_skip rfl (Tab.silent_true _) rfl ?_ | (refine Tab.tab_repE rfl (Tab.silent_true _) rfl (fun _ _ h => by cases h) rfl (fun _ => Tab.Ext.refl _ _) ?_; apply Exists.intro; refine And.intro (fun l w' _ _ hw => ?_) ?_; focus (go_simp; rfl)) | (refine Tab.tab_repE rfl (Tab.silent_true _) rfl (fun _ _ h => by cases h) rfl (fun _ => Tab.Ext.refl _ _) ?_; apply Exists.intro; refine And.intro (fun l w' hs hc hw => ?_) ?_; focus (go_simp; rfl)))
          refine Tab.tab_callv (f := f) (.int .i64 (cmpD ⟨.slice A1 m1 c1, r1, n1⟩ ⟨.slice A2 m2 c2, r2, n2⟩)) rfl rfl rfl rfl rfl HCMP.out.cf rfl (fun l_ w' _ _ _ hw => ?_) ?_
          · show Calls _ _ #[DE.val ⟨.slice A1 m1 c1, r1, n1⟩, DE.val ⟨.slice A2 m2 c2, r2, n2⟩] w' _
            refine (HCALL.out w' hw).mono ?_
            rintro e_ w_ ⟨rfl, hb_⟩
            exact ⟨rfl, Tab.Ext.of_below hb_, trivial⟩
          iterate 2 (first | (refine Tab.tab_moveE _ rfl (Tab.silent_true _) (.inl rfl) rfl rfl (fun _ => Tab.Ext.refl _ _) ?_; apply Exists.intro; refine And.intro ?_ ?_; focus (simp [Tab.Env.ev, Tab.Env.get]; rfl)) | (refine Tab.tab_moveE _ rfl (Tab.silent_true _) (.inr rfl) rfl rfl (fun _ => Tab.Ext.refl _ _) ?_; apply Exists.intro; refine And.intro ?_ ?_; focus (simp [Tab.Env.ev, Tab.Env.get]; rfl)) | refine Tab.tab_skip rfl (Tab.silent_true _) rfl ?_ | (refine Tab.tab_repE rfl (Tab.silent_true _) rfl (fun _ _ h => by cases h) rfl (fun _ => Tab.Ext.refl _ _) ?_; apply Exists.intro; refine And.intro (fun l w' _ _ hw => ?_) ?_; focus (go_simp; rfl)) | (refine Tab.tab_repE rfl (Tab.silent_true _) rfl (fun _ _ h => by cases h) rfl (fun _ => Tab.Ext.refl _ _) ?_; apply Exists.intro; refine And.intro (fun l w' hs hc hw => ?_) ?_; focus (go_simp; rfl)))
          intro a_ w_ hw_ hsat_
          refine Tab.fin_of_sat rfl ?_ hsat_
          simp only [Tab.fin, Act.put, List.setIfInBounds_toArray, List.set_cons_succ, List.set_cons_zero]
          have hs' := HS'.out.laterd hw_
          clear hsat_ hw_ q1 q2 HCALL HS'
          by_cases hc : cmpD ⟨.slice A1 m1 c1, r1, n1⟩ ⟨.slice A2 m2 c2, r2, n2⟩ < 0
          · rw [decide_eq_true hc]
            have HINS2 := Lib.hid (HINS.out.step (by rw [HLEN.out]; omega) hja (by rw [show j + 1 - 1 = j by omega, HE1.out, HE2.out]; exact hc))
            obtain ⟨A1', m1', c1', r1', n1', e1, g1, p1, -⟩ := hs'.at_ (i := j + 1) (by omega)
            obtain ⟨A2', m2', c2', r2', n2', e2, g2, p2, -⟩ := hs'.at_ (i := j) (by omega)
            have hfz := fun i => hs'.frozen i
            have HSW := Lib.hid (hs'.swap (i := j + 1) (j := j) (by omega) (by omega))
            rw [e1, e2] at HSW
            clear hc e1 e2 g1 g2 hs'
            go_wp2_with fail
            refine Tab.wp_region_tabC (fun _ _ => True) (Tab.stage2C 15 17 (fun b1_ b2_ w_' => w_' = if b2_ = true then ((((w_.drew.setCell ⟨g, (j + 1) * 2, none⟩ (.slice A2' m2' c2')).setCell ⟨g, (j + 1) * 2 + 1, none⟩ (.int .i64 n2')).setCell ⟨g, j * 2, none⟩ (.slice A1' m1' c1')).setCell ⟨g, j * 2 + 1, none⟩ (.int .i64 n1')) else if b1_ = true then ((w_.drew.setCell ⟨g, (j + 1) * 2, none⟩ (.slice A2' m2' c2')).setCell ⟨g, (j + 1) * 2 + 1, none⟩ (.int .i64 n2')) else w_.drew)) (by kernel_rfl) (by kernel_rfl) (fun _ => trivial) (fun _ _ _ _ _ => trivial) (Tab.stage2C_start rfl) ?_
            iterate 15 (first | (refine Tab.tab_moveE _ rfl (Tab.silent_at2 (by decide)) (.inl rfl) rfl rfl (fun _ => trivial) ?_; apply Exists.intro; refine And.intro ?_ ?_; focus (simp [Tab.Env.ev, Tab.Env.get]; rfl)) | (refine Tab.tab_moveE _ rfl (Tab.silent_at2 (by decide)) (.inr rfl) rfl rfl (fun _ => trivial) ?_; apply Exists.intro; refine And.intro ?_ ?_; focus (simp [Tab.Env.ev, Tab.Env.get]; rfl)) | refine Tab.tab_skip rfl (Tab.silent_at2 (by decide)) rfl ?_ | (refine Tab.tab_repE rfl (Tab.silent_at2 (by decide)) rfl (fun _ _ h => by cases h) rfl (fun _ => trivial) ?_; apply Exists.intro; refine And.intro (fun l w' _ _ hw => ?_) ?_; focus (go_simp; rfl)) | (refine Tab.tab_repE rfl (Tab.silent_at2 (by decide)) rfl (fun _ _ h => by cases h) rfl (fun _ => trivial) ?_; apply Exists.intro; refine And.intro (fun l w' hs hc hw => ?_) ?_; focus (first | (go_simp; rfl) | (have h := Tab.stage2C_before hc hs ⟨by kernel_rfl, by kernel_rfl⟩; simp only [Bool.false_eq_true, if_false] at h; subst h; go_simp; rfl))))
            (refine Tab.tab_act rfl rfl (fun _ _ h => by cases h) rfl (fun l w' hsz hs hc hw => ?_) ?_; focus (obtain ⟨h2_, h⟩ := Tab.stage2C_first hc hs (by kernel_rfl); simp only [Bool.false_eq_true, if_false] at h; subst h; refine ⟨((w_.drew.setCell ⟨g, (j + 1) * 2, none⟩ (.slice A2' m2' c2')).setCell ⟨g, (j + 1) * 2 + 1, none⟩ (.int .i64 n2')), ?_, trivial, Tab.stage2C_done1 rfl h2_ (by rw [hsz]; decide) (by decide)⟩; go_simp; done))
            iterate 1 (first | (refine Tab.tab_moveE _ rfl (Tab.silent_at2 (by decide)) (.inl rfl) rfl rfl (fun _ => trivial) ?_; apply Exists.intro; refine And.intro ?_ ?_; focus (simp [Tab.Env.ev, Tab.Env.get]; rfl)) | (refine Tab.tab_moveE _ rfl (Tab.silent_at2 (by decide)) (.inr rfl) rfl rfl (fun _ => trivial) ?_; apply Exists.intro; refine And.intro ?_ ?_; focus (simp [Tab.Env.ev, Tab.Env.get]; rfl)) | refine Tab.tab_skip rfl (Tab.silent_at2 (by decide)) rfl ?_ | (refine Tab.tab_repE rfl (Tab.silent_at2 (by decide)) rfl (fun _ _ h => by cases h) rfl (fun _ => trivial) ?_; apply Exists.intro; refine And.intro (fun l w' _ _ hw => ?_) ?_; focus (go_simp; rfl)) | (refine Tab.tab_repE rfl (Tab.silent_at2 (by decide)) rfl (fun _ _ h => by cases h) rfl (fun _ => trivial) ?_; apply Exists.intro; refine And.intro (fun l w' hs hc hw => ?_) ?_; focus (go_simp; rfl)))
            (refine Tab.tab_act rfl rfl (fun _ _ h => by cases h) rfl (fun l w' hsz hs hc hw => ?_) ?_; focus (obtain ⟨h1_, h⟩ := Tab.stage2C_second hc hs (by kernel_rfl); simp only [Bool.false_eq_true, if_false, if_true] at h; subst h; refine ⟨((((w_.drew.setCell ⟨g, (j + 1) * 2, none⟩ (.slice A2' m2' c2')).setCell ⟨g, (j + 1) * 2 + 1, none⟩ (.int .i64 n2')).setCell ⟨g, j * 2, none⟩ (.slice A1' m1' c1')).setCell ⟨g, j * 2 + 1, none⟩ (.int .i64 n1')), ?_, trivial, Tab.stage2C_done2 rfl h1_ (by rw [hsz]; decide) (by decide)⟩; go_simp; done))
            intro l_ a_ w_ hall_ hcl_ _ hsat_
            have hw_ := Tab.stage2C_end hcl_ hall_ (by decide)
            simp only [if_true] at hw_
            subst hw_
            refine Tab.fin_of_sat rfl ?_ hsat_
            simp only [Tab.fin, Act.put, List.setIfInBounds_toArray, List.set_cons_succ, List.set_cons_zero]
            go_wp2_with fail
            go_roundw
            case rel => exact ⟨j, _, by go_num, HSW.out, HINS2.out⟩
            case measure => simp [intOf] <;> omega
          · rw [decide_eq_false hc]
            have HD := Lib.hid (HINS.out.done cmpD_ord (.inr (by rw [show j + 1 - 1 = j by omega, HE1.out, HE2.out]; exact hc)))
            have HSM := Lib.hid (HSO.out.trans (HINS.out.same.wide (Nat.le_refl _) hlt))
            have HS' := Lib.hid hs'
            clear hc hs'
            go_wp2_with fail
            go_roundw
            case rel => exact ⟨k + 1, lj, by omega, .inl hlt, by go_num, HS'.out, HSM.out, HD.out⟩
            case measure => simp [intOf] <;> omega
        · obtain rfl : jn = a := by omega
          have HD := Lib.hid (HINS.out.done cmpD_ord (.inl rfl))
          have HSM := Lib.hid (HSO.out.trans (HINS.out.same.wide (Nat.le_refl _) hlt))
          have HS' := Lib.hid hs
          have hdec : decide ((jn : Int) < (jn : Int)) = false := by simp
          clear hins hs
          go_wp2_with fail
          refine Tab.wp_region_tab (Tab.Ext fun _ => False) (by kernel_rfl) (by kernel_rfl) (fun _ => Tab.Ext.refl _ _) (fun _ _ _ h k => h.trans k) ?_
          iterate 17 (first | (refine Tab.tab_moveE _ rfl (Tab.silent_true _) (.inl rfl) rfl rfl (fun _ => Tab.Ext.refl _ _) ?_; apply Exists.intro; refine And.intro ?_ ?_; focus (simp [Tab.Env.ev, Tab.Env.get]; rfl)) | (refine Tab.tab_moveE _ rfl (Tab.silent_true _) (.inr rfl) rfl rfl (fun _ => Tab.Ext.refl _ _) ?_; apply Exists.intro; refine And.intro ?_ ?_; focus (simp [Tab.Env.ev, Tab.Env.get]; rfl)) | refine Tab.tab_skip rfl (Tab.silent_true _) rfl ?_ | (refine Tab.tab_repE rfl (Tab.silent_true _) rfl (fun _ _ h => by cases h) rfl (fun _ => Tab.Ext.refl _ _) ?_; apply Exists.intro; refine And.intro (fun l w' _ _ hw => ?_) ?_; focus (go_simp; rfl)) | (refine Tab.tab_repE rfl (Tab.silent_true _) rfl (fun _ _ h => by cases h) rfl (fun _ => Tab.Ext.refl _ _) ?_; apply Exists.intro; refine And.intro (fun l w' hs hc hw => ?_) ?_; focus (go_simp; rfl)))
          intro a_ w_ hw_ hsat_
          refine Tab.fin_of_sat rfl ?_ hsat_
          simp only [Tab.fin, Act.put, List.setIfInBounds_toArray, List.set_cons_succ, List.set_cons_zero]
          have hs' := Lib.hid (HS'.out.laterd hw_)
          clear hsat_ hw_
          go_wp2_with fail
          go_roundw
          case rel => exact ⟨k + 1, lj, by omega, .inl hlt, by go_num, hs'.out, HSM.out, HD.out⟩
          case measure => simp [intOf] <;> omega
    · go_wp2_with fail
      exact bodyPost_end (results_none rfl _ _ _) rfl ⟨rfl, l', HS.out, HSO.out, HOR.out.narrow (Nat.le_refl _) (by omega)⟩
end Go.Proofs.YthejmnmkbldacaaGreatDoor

namespace Go.Proofs.YthejmnmkbldacaaGreatDoor
open Go.RowKit
attribute [local go_sem] Tab.Env.ev Tab.Env.get

/-- what symMerge does to the parts from a to m and from m to b -/
def SymC (f : FuncId) (g cap : Nat) (F : Nat → Prop) (n a m b : Nat) : Prop := ∀ (l : List DE) (w0 w : World), ST g cap F n w0 w l → a < m → m < b → b ≤ n → SortedOn cmpD l a m → SortedOn cmpD l m b →
  Calls Tryz.prog 188 #[.slice (some ⟨g, 0, none⟩) n cap, .int .i64 a, .int .i64 m, .int .i64 b, .func (.func f) #[] #[]] w fun e w' => e = .returned (.tuple #[]) ∧ ∃ l', ST g cap F n w0 w' l' ∧ SameOut l l' a b ∧ SortedOn cmpD l' a b
/-- where the search in the second part stands -/
structure Find1 (l : List DE) (a b x y : Nat) : Prop where
  lo : a + 1 ≤ x
  xy : x ≤ y
  hi : y ≤ b
  less : ∀ k, a + 1 ≤ k → k < x → cmpD (dat l k) (dat l a) < 0
  more : ∀ k, y ≤ k → k < b → ¬ cmpD (dat l k) (dat l a) < 0
theorem Find1.start (l : List DE) {a b : Nat} (h : a + 1 ≤ b) : Find1 l a b (a + 1) b := ⟨Nat.le_refl _, h, Nat.le_refl _, fun k h1 h2 => by omega, fun k h1 h2 => by omega⟩
theorem Find1.up {l : List DE} {a b x y h : Nat} (hs : SortedOn cmpD l (a + 1) b) (H : Find1 l a b x y) (h1 : x ≤ h) (h2 : h < y) (hc : cmpD (dat l h) (dat l a) < 0) : Find1 l a b (h + 1) y :=
  ⟨by have := H.lo; omega, h2, H.hi, fun k k1 k2 => cmpD_ord.lt_of_le_lt (hs.le cmpD_ord (i := k) (j := h) k1 (by omega) (by have := H.hi; omega)) hc, H.more⟩
theorem Find1.down {l : List DE} {a b x y h : Nat} (hs : SortedOn cmpD l (a + 1) b) (H : Find1 l a b x y) (h1 : x ≤ h) (h2 : h < y) (hc : ¬ cmpD (dat l h) (dat l a) < 0) : Find1 l a b x h :=
  ⟨H.lo, h1, by have := H.hi; omega, H.less, fun k k1 k2 hk => hc (cmpD_ord.lt_of_le_lt (hs.le cmpD_ord (i := h) (j := k) (by have := H.lo; omega) k1 k2) hk)⟩

set_option maxHeartbeats 4000000 in
set_option maxRecDepth 100000 in
theorem symMerge_one (f : FuncId) (HF : CmpOK f) (g cap : Nat) (F : Nat → Prop) (n a m b : Nat) (hm : m = a + 1) : SymC f g cap F n a m b := by
  intro l w0 w st ham hmb hbn hL hR
  obtain ⟨hcap, hmax⟩ := st.caps
  have hsm := st.small
  have HST := Lib.hid st
  have HCMP := Lib.hid HF
  have HM := Lib.hid hm
  have e0 : ((m : Int) - a == 1) = true := by simp; omega
  rw [hm] at hR
  have HR := Lib.hid hR
  clear st HF hm hR hL
  go_enter Tryz.func188, Tryz.ntmps188
  go_wp2_with fail
  go_loopw [10, 11] (fun i j wr => ∃ (x y : Nat), i = .int .i64 x ∧ j = .int .i64 y ∧ ST g cap F n w0 wr l ∧ Find1 l a b x y) (fun i j _ => (intOf j).toNat - (intOf i).toNat)
  case atStart => exact ⟨m, b, rfl, rfl, HST.out, HM.out ▸ Find1.start l (by omega)⟩
  case round =>
    obtain ⟨x, y, rfl, rfl, hs, hf⟩ := hrel
    have f1 := hf.lo
    have f2 := hf.xy
    have f3 := hf.hi
    have HFI := Lib.hid hf
    have HS := Lib.hid hs
    by_cases hlt : x < y
    · obtain ⟨h, hh⟩ : ∃ h, (x + y) / 2 = h := ⟨_, rfl⟩
      have hh1 : x ≤ h := by omega
      have hh2 : h < y := by omega
      have hx1 : 0 ≤ (x : Int) + y := by omega
      have hx2 : (x : Int) + y < 9223372036854775808 := by omega
      have hx3 : ((x : Int) + y) / 2 = h := by omega
      obtain ⟨A1, m1, c1, r1, n1, e1, g1, p1, q1⟩ := hs.at_ (i := h) (by omega)
      obtain ⟨A2, m2, c2, r2, n2, e2, g2, p2, q2⟩ := hs.at_ (i := a) (by omega)
      have HCALL := Lib.hid (ST.cmp HCMP.out g1 g2)
      have HE1 := Lib.hid e1
      have HE2 := Lib.hid e2
      clear hs e1 e2 g1 g2 p1 p2 hf hh
      have hb1 : h < n := by omega
      have hb2 : a < n := by omega
      go_wp2_with fail
      refine Tab.wp_region_tab (Tab.Ext fun _ => False) (by kernel_rfl) (by kernel_rfl) (fun _ => Tab.Ext.refl _ _) (fun _ _ _ h k => h.trans k) ?_
      iterate 9 (first | (refine Tab.tab_moveE _ rfl (Tab.silent_true _) (.inl rfl) rfl rfl (fun _ => Tab.Ext.refl _ _) ?_; apply Exists.intro; refine And.intro ?_ ?_; focus (simp [Tab.Env.ev, Tab.Env.get]; rfl)) | (refine Tab.tab_moveE _ rfl (Tab.silent_true _) (.inr rfl) rfl rfl (fun _ => Tab.Ext.refl _ _) ?_; apply Exists.intro; refine And.intro ?_ ?_; focus (simp [Tab.Env.ev, Tab.Env.get]; rfl)) | refine Tab.tab_skip rfl (Tab.silent_true _) rfl ?_ | (refine Tab.tab_repE rfl (Tab.silent_true _) rfl (fun _ _ h => by cases h) rfl (fun _ => Tab.Ext.refl _ _) ?_; apply Exists.intro; refine And.intro (fun l w' _ _ hw => ?_) ?_; focus (go_simp; rfl)) | (refine Tab.tab_repE rfl (Tab.silent_true _) rfl (fun _ _ h => by cases h) rfl (fun _ => Tab.Ext.refl _ _) ?_; apply Exists.intro; refine And.intro (fun l w' hs hc hw => ?_) ?_; focus (go_simp; rfl)))
      refine Tab.tab_callv (f := f) (.int .i64 (cmpD ⟨.slice A1 m1 c1, r1, n1⟩ ⟨.slice A2 m2 c2, r2, n2⟩)) rfl rfl rfl rfl rfl HCMP.out.cf rfl (fun l_ w' _ _ _ hw => ?_) ?_
      · show Calls _ _ #[DE.val ⟨.slice A1 m1 c1, r1, n1⟩, DE.val ⟨.slice A2 m2 c2, r2, n2⟩] w' _
        refine (HCALL.out w' hw).mono ?_
        rintro e_ w_ ⟨rfl, hb_⟩
        exact ⟨rfl, Tab.Ext.of_below hb_, trivial⟩
      iterate 1 (first | (refine Tab.tab_moveE _ rfl (Tab.silent_true _) (.inl rfl) rfl rfl (fun _ => Tab.Ext.refl _ _) ?_; apply Exists.intro; refine And.intro ?_ ?_; focus (simp [Tab.Env.ev, Tab.Env.get]; rfl)) | (refine Tab.tab_moveE _ rfl (Tab.silent_true _) (.inr rfl) rfl rfl (fun _ => Tab.Ext.refl _ _) ?_; apply Exists.intro; refine And.intro ?_ ?_; focus (simp [Tab.Env.ev, Tab.Env.get]; rfl)) | refine Tab.tab_skip rfl (Tab.silent_true _) rfl ?_ | (refine Tab.tab_repE rfl (Tab.silent_true _) rfl (fun _ _ h => by cases h) rfl (fun _ => Tab.Ext.refl _ _) ?_; apply Exists.intro; refine And.intro (fun l w' _ _ hw => ?_) ?_; focus (go_simp; rfl)) | (refine Tab.tab_repE rfl (Tab.silent_true _) rfl (fun _ _ h => by cases h) rfl (fun _ => Tab.Ext.refl _ _) ?_; apply Exists.intro; refine And.intro (fun l w' hs hc hw => ?_) ?_; focus (go_simp; rfl)))
      intro a_ w_ hw_ hsat_
      refine Tab.fin_of_sat rfl ?_ hsat_
      simp only [Tab.fin, Act.put, List.setIfInBounds_toArray, List.set_cons_succ, List.set_cons_zero]
      have hs' := Lib.hid (HS.out.laterd hw_)
      clear hsat_ hw_ q1 q2 HCALL
      by_cases hc : cmpD ⟨.slice A1 m1 c1, r1, n1⟩ ⟨.slice A2 m2 c2, r2, n2⟩ < 0
      · rw [decide_eq_true hc]
        have HN := Lib.hid (HFI.out.up HR.out hh1 hh2 (by rw [HE1.out, HE2.out]; exact hc))
        clear hc
        go_wp2_with fail
        go_roundw
        case rel => exact ⟨h + 1, y, by go_num, rfl, hs'.out, HN.out⟩
        case measure => simp [intOf] <;> omega
      · rw [decide_eq_false hc]
        have HN := Lib.hid (HFI.out.down HR.out hh1 hh2 (by rw [HE1.out, HE2.out]; exact hc))
        clear hc
        go_wp2_with fail
        go_roundw
        case rel => exact ⟨x, h, rfl, rfl, hs'.out, HN.out⟩
        case measure => simp [intOf] <;> omega
    · obtain rfl : x = y := by omega
      have hdec : decide ((x : Int) < (x : Int)) = false := by simp
      clear hs hf hlt
      go_wp2_with fail
      go_loopw [13] (fun i wr => ∃ (k : Nat) (l' : List DE), a ≤ k ∧ k ≤ x - 1 ∧ i = .int .i64 k ∧ ST g cap F n w0 wr l' ∧ Up l l' a k) (fun i _ => x - (intOf i).toNat)
      case atStart => exact ⟨a, l, Nat.le_refl _, by omega, rfl, HS.out, Up.start _ _⟩
      case round =>
        obtain ⟨k, l', k1, k2, rfl, hs, hu⟩ := hrel
        have HU := Lib.hid hu
        by_cases hlt : k < x - 1
        · have HLEN := Lib.hid (HS.out.len)
          have hdec : decide ((k : Int) < (x : Int) - 1) = true := by simp; omega
          obtain ⟨A1, m1, c1, r1, n1, e1, g1, p1, -⟩ := hs.at_ (i := k) (by omega)
          obtain ⟨A2, m2, c2, r2, n2, e2, g2, p2, -⟩ := hs.at_ (i := k + 1) (by omega)
          have hfz := fun i => hs.frozen i
          have HSW := Lib.hid (hs.swap (i := k) (j := k + 1) (by omega) (by omega))
          rw [e1, e2] at HSW
          have HU2 := Lib.hid (hu.step k1 (by rw [HLEN.out]; omega))
          have gk : k < n := by omega
          have gk1 : (k : Int) + 1 < n := by omega
          have gk2 : (0 : Int) ≤ (k : Int) + 1 := by omega
          have wi := IntWalk.i64_in ((k : Int) + 1) (by omega)
          have tj : ((k : Int) + 1).toNat = k + 1 := by omega
          clear e1 e2 g1 g2 hs hu
          go_wp2_with fail
          refine Tab.wp_region_tabC (fun _ _ => True) (Tab.stage2C 15 17 (fun b1_ b2_ w_' => w_' = if b2_ = true then ((((wr.drew.setCell ⟨g, k * 2, none⟩ (.slice A2 m2 c2)).setCell ⟨g, k * 2 + 1, none⟩ (.int .i64 n2)).setCell ⟨g, (k + 1) * 2, none⟩ (.slice A1 m1 c1)).setCell ⟨g, (k + 1) * 2 + 1, none⟩ (.int .i64 n1)) else if b1_ = true then ((wr.drew.setCell ⟨g, k * 2, none⟩ (.slice A2 m2 c2)).setCell ⟨g, k * 2 + 1, none⟩ (.int .i64 n2)) else wr.drew)) (by kernel_rfl) (by kernel_rfl) (fun _ => trivial) (fun _ _ _ _ _ => trivial) (Tab.stage2C_start rfl) ?_
          iterate 15 (first | (refine Tab.tab_moveE _ rfl (Tab.silent_at2 (by decide)) (.inl rfl) rfl rfl (fun _ => trivial) ?_; apply Exists.intro; refine And.intro ?_ ?_; focus (simp [Tab.Env.ev, Tab.Env.get]; rfl)) | (refine Tab.tab_moveE _ rfl (Tab.silent_at2 (by decide)) (.inr rfl) rfl rfl (fun _ => trivial) ?_; apply Exists.intro; refine And.intro ?_ ?_; focus (simp [Tab.Env.ev, Tab.Env.get]; rfl)) | refine Tab.tab_skip rfl (Tab.silent_at2 (by decide)) rfl ?_ | (refine Tab.tab_repE rfl (Tab.silent_at2 (by decide)) rfl (fun _ _ h => by cases h) rfl (fun _ => trivial) ?_; apply Exists.intro; refine And.intro (fun l w' _ _ hw => ?_) ?_; focus (go_simp; rfl)) | (refine Tab.tab_repE rfl (Tab.silent_at2 (by decide)) rfl (fun _ _ h => by cases h) rfl (fun _ => trivial) ?_; apply Exists.intro; refine And.intro (fun l w' hs hc hw => ?_) ?_; focus (first | (go_simp; rfl) | (have h := Tab.stage2C_before hc hs ⟨by kernel_rfl, by kernel_rfl⟩; simp only [Bool.false_eq_true, if_false] at h; subst h; go_simp; rfl))))
          (refine Tab.tab_act rfl rfl (fun _ _ h => by cases h) rfl (fun l w' hsz hs hc hw => ?_) ?_; focus (obtain ⟨h2_, h⟩ := Tab.stage2C_first hc hs (by kernel_rfl); simp only [Bool.false_eq_true, if_false] at h; subst h; refine ⟨((wr.drew.setCell ⟨g, k * 2, none⟩ (.slice A2 m2 c2)).setCell ⟨g, k * 2 + 1, none⟩ (.int .i64 n2)), ?_, trivial, Tab.stage2C_done1 rfl h2_ (by rw [hsz]; decide) (by decide)⟩; go_simp; done))
          iterate 1 (first | (refine Tab.tab_moveE _ rfl (Tab.silent_at2 (by decide)) (.inl rfl) rfl rfl (fun _ => trivial) ?_; apply Exists.intro; refine And.intro ?_ ?_; focus (simp [Tab.Env.ev, Tab.Env.get]; rfl)) | (refine Tab.tab_moveE _ rfl (Tab.silent_at2 (by decide)) (.inr rfl) rfl rfl (fun _ => trivial) ?_; apply Exists.intro; refine And.intro ?_ ?_; focus (simp [Tab.Env.ev, Tab.Env.get]; rfl)) | refine Tab.tab_skip rfl (Tab.silent_at2 (by decide)) rfl ?_ | (refine Tab.tab_repE rfl (Tab.silent_at2 (by decide)) rfl (fun _ _ h => by cases h) rfl (fun _ => trivial) ?_; apply Exists.intro; refine And.intro (fun l w' _ _ hw => ?_) ?_; focus (go_simp; rfl)) | (refine Tab.tab_repE rfl (Tab.silent_at2 (by decide)) rfl (fun _ _ h => by cases h) rfl (fun _ => trivial) ?_; apply Exists.intro; refine And.intro (fun l w' hs hc hw => ?_) ?_; focus (go_simp; rfl)))
          (refine Tab.tab_act rfl rfl (fun _ _ h => by cases h) rfl (fun l w' hsz hs hc hw => ?_) ?_; focus (obtain ⟨h1_, h⟩ := Tab.stage2C_second hc hs (by kernel_rfl); simp only [Bool.false_eq_true, if_false, if_true] at h; subst h; refine ⟨((((wr.drew.setCell ⟨g, k * 2, none⟩ (.slice A2 m2 c2)).setCell ⟨g, k * 2 + 1, none⟩ (.int .i64 n2)).setCell ⟨g, (k + 1) * 2, none⟩ (.slice A1 m1 c1)).setCell ⟨g, (k + 1) * 2 + 1, none⟩ (.int .i64 n1)), ?_, trivial, Tab.stage2C_done2 rfl h1_ (by rw [hsz]; decide) (by decide)⟩; go_simp; done))
          intro l_ a_ w_ hall_ hcl_ _ hsat_
          have hw_ := Tab.stage2C_end hcl_ hall_ (by decide)
          simp only [if_true] at hw_
          subst hw_
          refine Tab.fin_of_sat rfl ?_ hsat_
          simp only [Tab.fin, Act.put, List.setIfInBounds_toArray, List.set_cons_succ, List.set_cons_zero]
          go_wp2_with fail
          go_roundw
          case rel => exact ⟨k + 1, _, by omega, by omega, by go_num, HSW.out, HU2.out⟩
          case measure => simp [intOf] <;> omega
        · obtain rfl : k = x - 1 := by omega
          have hdec : decide (((x - 1 : Nat) : Int) < (x : Int) - 1) = false := by simp; omega
          have HS' := Lib.hid hs
          have HF := Lib.hid (hu.sorted cmpD_ord f1 f3 HR.out HFI.out.less HFI.out.more)
          clear hs hu
          go_wp2_with fail
          exact bodyPost_ret (v := .tuple #[]) (results_none rfl _ _ _) rfl ⟨rfl, l', HS'.out, HF.out⟩
end Go.Proofs.YthejmnmkbldacaaGreatDoor

namespace Go.Proofs.YthejmnmkbldacaaGreatDoor
open Go.RowKit
attribute [local go_sem] Tab.Env.ev Tab.Env.get

/-- where the search in the first part stands -/
structure Find2 (l : List DE) (a m x y : Nat) : Prop where
  lo : a ≤ x
  xy : x ≤ y
  hi : y ≤ m
  less : ∀ k, a ≤ k → k < x → ¬ cmpD (dat l m) (dat l k) < 0
  more : ∀ k, y ≤ k → k < m → cmpD (dat l m) (dat l k) < 0
theorem Find2.start (l : List DE) {a m : Nat} (h : a ≤ m) : Find2 l a m a m := ⟨Nat.le_refl _, h, Nat.le_refl _, fun k h1 h2 => by omega, fun k h1 h2 => by omega⟩
theorem Find2.up {l : List DE} {a m x y h : Nat} (hs : SortedOn cmpD l a m) (H : Find2 l a m x y) (h1 : x ≤ h) (h2 : h < y) (hc : ¬ cmpD (dat l m) (dat l h) < 0) : Find2 l a m (h + 1) y :=
  ⟨by have := H.lo; omega, h2, H.hi, fun k k1 k2 hk => hc (cmpD_ord.lt_of_lt_le hk (hs.le cmpD_ord (i := k) (j := h) k1 (by omega) (by have := H.hi; omega))), H.more⟩
theorem Find2.down {l : List DE} {a m x y h : Nat} (hs : SortedOn cmpD l a m) (H : Find2 l a m x y) (h1 : x ≤ h) (h2 : h < y) (hc : cmpD (dat l m) (dat l h) < 0) : Find2 l a m x h :=
  ⟨H.lo, h1, by have := H.hi; omega, H.less, fun k k1 k2 => cmpD_ord.lt_of_lt_le hc (hs.le cmpD_ord (i := h) (j := k) (by have := H.lo; omega) k1 k2)⟩

set_option maxHeartbeats 4000000 in
set_option maxRecDepth 100000 in
theorem symMerge_last (f : FuncId) (HF : CmpOK f) (g cap : Nat) (F : Nat → Prop) (n a m b : Nat) (hm1 : m ≠ a + 1) (hm : b = m + 1) : SymC f g cap F n a m b := by
  intro l w0 w st ham hmb hbn hL hR
  obtain ⟨hcap, hmax⟩ := st.caps
  have hsm := st.small
  have HST := Lib.hid st
  have HCMP := Lib.hid HF
  have e0 : ((m : Int) - a == 1) = false := by simp; omega
  have e1 : ((b : Int) - m == 1) = true := by simp; omega
  have HM := Lib.hid hm
  have HL := Lib.hid hL
  have hmn : m < n := by omega
  clear st HF hm hR hL hm1
  go_enter Tryz.func188, Tryz.ntmps188
  go_wp2_with fail
  go_loopw [14, 15] (fun i j wr => ∃ (x y : Nat), i = .int .i64 x ∧ j = .int .i64 y ∧ ST g cap F n w0 wr l ∧ Find2 l a m x y) (fun i j _ => (intOf j).toNat - (intOf i).toNat)
  case atStart => exact ⟨a, m, rfl, rfl, HST.out, Find2.start l (by omega)⟩
  case round =>
    obtain ⟨x, y, rfl, rfl, hs, hf⟩ := hrel
    have f1 := hf.lo
    have f2 := hf.xy
    have f3 := hf.hi
    have HFI := Lib.hid hf
    have HS := Lib.hid hs
    by_cases hlt : x < y
    · obtain ⟨h, hh⟩ : ∃ h, (x + y) / 2 = h := ⟨_, rfl⟩
      have hh1 : x ≤ h := by omega
      have hh2 : h < y := by omega
      have hx1 : 0 ≤ (x : Int) + y := by omega
      have hx2 : (x : Int) + y < 9223372036854775808 := by omega
      have hx3 : ((x : Int) + y) / 2 = h := by omega
      obtain ⟨A1, m1, c1, r1, n1, e1, g1, p1, q1⟩ := hs.at_ (i := m) (by omega)
      obtain ⟨A2, m2, c2, r2, n2, e2, g2, p2, q2⟩ := hs.at_ (i := h) (by omega)
      have HCALL := Lib.hid (ST.cmp HCMP.out g1 g2)
      have HE1 := Lib.hid e1
      have HE2 := Lib.hid e2
      clear hs e1 e2 g1 g2 p1 p2 hf hh
      have hb1 : h < n := by omega
      go_wp2_with fail
      refine Tab.wp_region_tab (Tab.Ext fun _ => False) (by kernel_rfl) (by kernel_rfl) (fun _ => Tab.Ext.refl _ _) (fun _ _ _ h k => h.trans k) ?_
      iterate 9 (first | (refine Tab.tab_moveE _ rfl (Tab.silent_true _) (.inl rfl) rfl rfl (fun _ => Tab.Ext.refl _ _) ?_; apply Exists.intro; refine And.intro ?_ ?_; focus (simp [Tab.Env.ev, Tab.Env.get]; rfl)) | (refine Tab.tab_moveE _ rfl (Tab.silent_true _) (.inr rfl) rfl rfl (fun _ => Tab.Ext.refl _ _) ?_; apply Exists.intro; refine And.intro ?_ ?_; focus (simp [Tab.Env.ev, Tab.Env.get]; rfl)) | refine Tab.tab_skip rfl (Tab.silent_true _) rfl ?_ | (refine Tab.tab_repE rfl (Tab.silent_true _) rfl (fun _ _ h => by cases h) rfl (fun _ => Tab.Ext.refl _ _) ?_; apply Exists.intro; refine And.intro (fun l w' _ _ hw => ?_) ?_; focus (go_simp; rfl)) | (refine Tab.tab_repE rfl (Tab.silent_true _) rfl (fun _ _ h => by cases h) rfl (fun _ => Tab.Ext.refl _ _) ?_; apply Exists.intro; refine And.intro (fun l w' hs hc hw => ?_) ?_; focus (go_simp; rfl)))
      refine Tab.tab_callv (f := f) (.int .i64 (cmpD ⟨.slice A1 m1 c1, r1, n1⟩ ⟨.slice A2 m2 c2, r2, n2⟩)) rfl rfl rfl rfl rfl HCMP.out.cf rfl (fun l_ w' _ _ _ hw => ?_) ?_
      · show Calls _ _ #[DE.val ⟨.slice A1 m1 c1, r1, n1⟩, DE.val ⟨.slice A2 m2 c2, r2, n2⟩] w' _
        refine (HCALL.out w' hw).mono ?_
        rintro e_ w_ ⟨rfl, hb_⟩
        exact ⟨rfl, Tab.Ext.of_below hb_, trivial⟩
      iterate 2 (first | (refine Tab.tab_moveE _ rfl (Tab.silent_true _) (.inl rfl) rfl rfl (fun _ => Tab.Ext.refl _ _) ?_; apply Exists.intro; refine And.intro ?_ ?_; focus (simp [Tab.Env.ev, Tab.Env.get]; rfl)) | (refine Tab.tab_moveE _ rfl (Tab.silent_true _) (.inr rfl) rfl rfl (fun _ => Tab.Ext.refl _ _) ?_; apply Exists.intro; refine And.intro ?_ ?_; focus (simp [Tab.Env.ev, Tab.Env.get]; rfl)) | refine Tab.tab_skip rfl (Tab.silent_true _) rfl ?_ | (refine Tab.tab_repE rfl (Tab.silent_true _) rfl (fun _ _ h => by cases h) rfl (fun _ => Tab.Ext.refl _ _) ?_; apply Exists.intro; refine And.intro (fun l w' _ _ hw => ?_) ?_; focus (go_simp; rfl)) | (refine Tab.tab_repE rfl (Tab.silent_true _) rfl (fun _ _ h => by cases h) rfl (fun _ => Tab.Ext.refl _ _) ?_; apply Exists.intro; refine And.intro (fun l w' hs hc hw => ?_) ?_; focus (go_simp; rfl)))
      intro a_ w_ hw_ hsat_
      refine Tab.fin_of_sat rfl ?_ hsat_
      simp only [Tab.fin, Act.put, List.setIfInBounds_toArray, List.set_cons_succ, List.set_cons_zero]
      have hs' := Lib.hid (HS.out.laterd hw_)
      clear hsat_ hw_ q1 q2 HCALL
      by_cases hc : cmpD ⟨.slice A1 m1 c1, r1, n1⟩ ⟨.slice A2 m2 c2, r2, n2⟩ < 0
      · rw [decide_eq_true hc, Bool.not_true]
        have HN := Lib.hid (HFI.out.down HL.out hh1 hh2 (by rw [HE1.out, HE2.out]; exact hc))
        clear hc
        go_wp2_with fail
        go_roundw
        case rel => exact ⟨x, h, rfl, rfl, hs'.out, HN.out⟩
        case measure => simp [intOf] <;> omega
      · rw [decide_eq_false hc, Bool.not_false]
        have HN := Lib.hid (HFI.out.up HL.out hh1 hh2 (by rw [HE1.out, HE2.out]; exact hc))
        clear hc
        go_wp2_with fail
        go_roundw
        case rel => exact ⟨h + 1, y, by go_num, rfl, hs'.out, HN.out⟩
        case measure => simp [intOf] <;> omega
    · obtain rfl : x = y := by omega
      have hdec : decide ((x : Int) < (x : Int)) = false := by simp
      clear hs hf hlt
      go_wp2_with fail
      go_loopw [17] (fun i wr => ∃ (k : Nat) (l' : List DE), x ≤ k ∧ k ≤ m ∧ i = .int .i64 k ∧ ST g cap F n w0 wr l' ∧ Down l l' m k) (fun i _ => (intOf i).toNat)
      case atStart => exact ⟨m, l, f3, Nat.le_refl _, rfl, HS.out, Down.start _ _⟩
      case round =>
        obtain ⟨k, l', k1, k2, rfl, hs, hu⟩ := hrel
        have HU := Lib.hid hu
        by_cases hlt : x < k
        · have HLEN := Lib.hid (HS.out.len)
          obtain ⟨j, rfl⟩ : ∃ j, k = j + 1 := ⟨k - 1, by omega⟩
          have hdec : decide ((x : Int) < (j : Int) + 1) = true := by simp; omega
          obtain ⟨A1, m1, c1, r1, n1, e1, g1, p1, -⟩ := hs.at_ (i := j + 1) (by omega)
          obtain ⟨A2, m2, c2, r2, n2, e2, g2, p2, -⟩ := hs.at_ (i := j) (by omega)
          have hfz := fun i => hs.frozen i
          have HSW := Lib.hid (hs.swap (i := j + 1) (j := j) (by omega) (by omega))
          rw [e1, e2] at HSW
          have HU2 := Lib.hid (hu.step k2 (by omega) (by rw [HLEN.out]; omega))
          have hjn : (0 : Int) ≤ (j : Int) + 1 ∧ (j : Int) + 1 < (n : Int) := by omega
          have hjn' : j < n := by omega
          have wj := IntWalk.i64_in (j : Int) (by omega)
          have tj : ((j : Int) + 1).toNat = j + 1 := by omega
          clear e1 e2 g1 g2 hs hu
          go_wp2_with fail
          refine Tab.wp_region_tabC (fun _ _ => True) (Tab.stage2C 15 17 (fun b1_ b2_ w_' => w_' = if b2_ = true then ((((wr.drew.setCell ⟨g, (j + 1) * 2, none⟩ (.slice A2 m2 c2)).setCell ⟨g, (j + 1) * 2 + 1, none⟩ (.int .i64 n2)).setCell ⟨g, j * 2, none⟩ (.slice A1 m1 c1)).setCell ⟨g, j * 2 + 1, none⟩ (.int .i64 n1)) else if b1_ = true then ((wr.drew.setCell ⟨g, (j + 1) * 2, none⟩ (.slice A2 m2 c2)).setCell ⟨g, (j + 1) * 2 + 1, none⟩ (.int .i64 n2)) else wr.drew)) (by kernel_rfl) (by kernel_rfl) (fun _ => trivial) (fun _ _ _ _ _ => trivial) (Tab.stage2C_start rfl) ?_
          iterate 15 (first | (refine Tab.tab_moveE _ rfl (Tab.silent_at2 (by decide)) (.inl rfl) rfl rfl (fun _ => trivial) ?_; apply Exists.intro; refine And.intro ?_ ?_; focus (simp [Tab.Env.ev, Tab.Env.get]; rfl)) | (refine Tab.tab_moveE _ rfl (Tab.silent_at2 (by decide)) (.inr rfl) rfl rfl (fun _ => trivial) ?_; apply Exists.intro; refine And.intro ?_ ?_; focus (simp [Tab.Env.ev, Tab.Env.get]; rfl)) | refine Tab.tab_skip rfl (Tab.silent_at2 (by decide)) rfl ?_ | (refine Tab.tab_repE rfl (Tab.silent_at2 (by decide)) rfl (fun _ _ h => by cases h) rfl (fun _ => trivial) ?_; apply Exists.intro; refine And.intro (fun l w' _ _ hw => ?_) ?_; focus (go_simp; rfl)) | (refine Tab.tab_repE rfl (Tab.silent_at2 (by decide)) rfl (fun _ _ h => by cases h) rfl (fun _ => trivial) ?_; apply Exists.intro; refine And.intro (fun l w' hs hc hw => ?_) ?_; focus (first | (go_simp; rfl) | (have h := Tab.stage2C_before hc hs ⟨by kernel_rfl, by kernel_rfl⟩; simp only [Bool.false_eq_true, if_false] at h; subst h; go_simp; rfl))))
          (refine Tab.tab_act rfl rfl (fun _ _ h => by cases h) rfl (fun l w' hsz hs hc hw => ?_) ?_; focus (obtain ⟨h2_, h⟩ := Tab.stage2C_first hc hs (by kernel_rfl); simp only [Bool.false_eq_true, if_false] at h; subst h; refine ⟨((wr.drew.setCell ⟨g, (j + 1) * 2, none⟩ (.slice A2 m2 c2)).setCell ⟨g, (j + 1) * 2 + 1, none⟩ (.int .i64 n2)), ?_, trivial, Tab.stage2C_done1 rfl h2_ (by rw [hsz]; decide) (by decide)⟩; go_simp; done))
          iterate 1 (first | (refine Tab.tab_moveE _ rfl (Tab.silent_at2 (by decide)) (.inl rfl) rfl rfl (fun _ => trivial) ?_; apply Exists.intro; refine And.intro ?_ ?_; focus (simp [Tab.Env.ev, Tab.Env.get]; rfl)) | (refine Tab.tab_moveE _ rfl (Tab.silent_at2 (by decide)) (.inr rfl) rfl rfl (fun _ => trivial) ?_; apply Exists.intro; refine And.intro ?_ ?_; focus (simp [Tab.Env.ev, Tab.Env.get]; rfl)) | refine Tab.tab_skip rfl (Tab.silent_at2 (by decide)) rfl ?_ | (refine Tab.tab_repE rfl (Tab.silent_at2 (by decide)) rfl (fun _ _ h => by cases h) rfl (fun _ => trivial) ?_; apply Exists.intro; refine And.intro (fun l w' _ _ hw => ?_) ?_; focus (go_simp; rfl)) | (refine Tab.tab_repE rfl (Tab.silent_at2 (by decide)) rfl (fun _ _ h => by cases h) rfl (fun _ => trivial) ?_; apply Exists.intro; refine And.intro (fun l w' hs hc hw => ?_) ?_; focus (go_simp; rfl)))
          (refine Tab.tab_act rfl rfl (fun _ _ h => by cases h) rfl (fun l w' hsz hs hc hw => ?_) ?_; focus (obtain ⟨h1_, h⟩ := Tab.stage2C_second hc hs (by kernel_rfl); simp only [Bool.false_eq_true, if_false, if_true] at h; subst h; refine ⟨((((wr.drew.setCell ⟨g, (j + 1) * 2, none⟩ (.slice A2 m2 c2)).setCell ⟨g, (j + 1) * 2 + 1, none⟩ (.int .i64 n2)).setCell ⟨g, j * 2, none⟩ (.slice A1 m1 c1)).setCell ⟨g, j * 2 + 1, none⟩ (.int .i64 n1)), ?_, trivial, Tab.stage2C_done2 rfl h1_ (by rw [hsz]; decide) (by decide)⟩; go_simp; done))
          intro l_ a_ w_ hall_ hcl_ _ hsat_
          have hw_ := Tab.stage2C_end hcl_ hall_ (by decide)
          simp only [if_true] at hw_
          subst hw_
          refine Tab.fin_of_sat rfl ?_ hsat_
          simp only [Tab.fin, Act.put, List.setIfInBounds_toArray, List.set_cons_succ, List.set_cons_zero]
          go_wp2_with fail
          go_roundw
          case rel => exact ⟨j, _, by omega, by omega, by go_num, HSW.out, HU2.out⟩
          case measure => simp [intOf] <;> omega
        · obtain rfl : k = x := by omega
          have HS' := Lib.hid hs
          have HF := Lib.hid (hu.sorted cmpD_ord f1 f3 HL.out HFI.out.less HFI.out.more)
          clear hs hu
          go_wp2_with fail
          exact bodyPost_ret (v := .tuple #[]) (results_none rfl _ _ _) rfl ⟨rfl, l', HS'.out, HM.out ▸ HF.out⟩
end Go.Proofs.YthejmnmkbldacaaGreatDoor
