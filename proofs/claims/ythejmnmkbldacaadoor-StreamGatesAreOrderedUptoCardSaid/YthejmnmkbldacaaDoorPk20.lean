/-
  What is proved: rotate lets two neighbouring parts of a row of differences change places; insertionSort sorts a part. Conditions: none.
  What is proved: the plain law of adding up a sorted list: neighbours that compare equal become one, with the sum of their numbers; and that such a list is known by its totals. Conditions: the order is a total preorder. No program in sight.
  What is proved: symMerge where its first part is one difference. Conditions: none.
-/
import Derived.Test.YthejmnmkbldacaaDoorPk15
import Derived.Test.YthejmnmkbldacaaDoorPk09
set_option linter.all false
namespace Go.Proofs.YthejmnmkbldacaaDoor
open Go.RowKit
attribute [local go_sem] Tab.Env.ev Tab.Env.get

set_option maxHeartbeats 2000000 in
theorem rotate_any (g cap : Nat) (F : Nat → Prop) (l : List DE) (w0 w : World) (n : Nat) (st : ST g cap F n w0 w l) (a m b : Nat) (ham : a < m) (hmb : m < b) (hb : b ≤ n) (fv : Value) :
    Calls Tryd.prog 193 #[.slice (some ⟨g, 0, none⟩) n cap, .int .i64 a, .int .i64 m, .int .i64 b, fv] w fun e w' => e = .returned (.tuple #[]) ∧ ∃ l', ST g cap F n w0 w' l' ∧ SameOut l l' a b ∧ ∀ k, dat l' k = rotAt l a m b k := by
  obtain ⟨hcap, hmax⟩ := st.caps
  have hsm := st.small
  have HST := Lib.hid st
  clear st
  go_enter Tryd.func193, Tryd.ntmps193
  go_wp2_with fail
  go_loopw [10, 11] (fun i j wr => ∃ (x y : Nat) (l' : List DE), 0 < x ∧ 0 < y ∧ x ≤ m - a ∧ y ≤ b - m ∧ i = .int .i64 x ∧ j = .int .i64 y ∧ ST g cap F n w0 wr l' ∧ Rot l l' a m b x y) (fun i j _ => (intOf i).toNat + (intOf j).toNat)
  case atStart => exact ⟨m - a, b - m, l, by omega, by omega, by omega, by omega, by congr 1; omega, by congr 1; omega, HST.out, Rot.start _ (by omega) (by omega)⟩
  case round =>
    obtain ⟨x, y, l', hx, hy, hxm, hyb, rfl, rfl, hs, hr⟩ := hrel
    have HS := Lib.hid hs
    have HR := Lib.hid hr
    clear hs hr
    have gx : (0 : Int) ≤ (m : Int) - x := by omega
    by_cases hxy : x = y
    · subst hxy
      have e0 : ((x : Int) != (x : Int)) = false := by simp
      go_wp2_with fail
      rw [show (m : Int) - x = ((m - x : Nat) : Int) by omega]
      refine (swapRange_any g cap F l' w0 wr n HS.out (m - x) m x (by omega) (by omega) fv).mono ?_
      rintro e w1 ⟨rfl, l'', hs', hsw⟩
      have hfin := HR.out.last (by omega) (by omega) hsw
      have HF := Lib.hid hfin
      clear hfin hsw
      go_wp2_with fail
      exact bodyPost_end (results_none rfl _ _ _) rfl ⟨rfl, l'', hs', HF.out⟩
    · have e0 : ((x : Int) != (y : Int)) = true := by simp; omega
      by_cases hlt : y < x
      · go_wp2_with fail
        rw [show (m : Int) - x = ((m - x : Nat) : Int) by omega]
        refine (swapRange_any g cap F l' w0 wr n HS.out (m - x) m y (by omega) (by omega) fv).mono ?_
        rintro e w1 ⟨rfl, l'', hs', hsw⟩
        have HS' := Lib.hid hs'
        have HR' := Lib.hid (HR.out.left (by omega) (by omega) hlt hsw)
        clear hs' hsw
        go_wp2_with fail
        go_roundw
        case rel => exact ⟨x - y, y, l'', by omega, by omega, by omega, by omega, by congr 1; omega, rfl, HS'.out, HR'.out⟩
        case measure => simp [intOf] <;> omega
      · have hlt' : x < y := by omega
        go_wp2_with fail
        rw [show (m : Int) - x = ((m - x : Nat) : Int) by omega, show (m : Int) + y - x = ((m + y - x : Nat) : Int) by omega]
        refine (swapRange_any g cap F l' w0 wr n HS.out (m - x) (m + y - x) x (by omega) (by omega) fv).mono ?_
        rintro e w1 ⟨rfl, l'', hs', hsw⟩
        have HS' := Lib.hid hs'
        have HR' := Lib.hid (HR.out.right (by omega) (by omega) hlt' hsw)
        clear hs' hsw
        go_wp2_with fail
        go_roundw
        case rel => exact ⟨x, y - x, l'', by omega, by omega, by omega, by omega, rfl, by congr 1; omega, HS'.out, HR'.out⟩
        case measure => simp [intOf] <;> omega

/-- the comparison of what lies at two places -/
theorem ST.cmp {F : Nat → Prop} {wr : World} {f : FuncId} (HF : CmpOK f) {d e : DE} (h1 : d.good wr F) (h2 : e.good wr F) :
    ∀ w', Tab.Ext (fun _ => False) wr.drew w' → Calls Tryd.prog f #[d.val, e.val] w' fun r w'' => r = .returned (.int .i64 (cmpD d e)) ∧ Below w'.heap.size w' w'' :=
  fun w' hw => HF.calls F F d e w' (h1.ext (M := fun _ => False) ((Tab.Ext.refl _ wr).drew.trans hw) (fun _ _ => id)) (h2.ext (M := fun _ => False) ((Tab.Ext.refl _ wr).drew.trans hw) (fun _ _ => id))

set_option maxHeartbeats 2000000 in
theorem insertion_any (f : FuncId) (HF : CmpOK f) (g cap : Nat) (F : Nat → Prop) (l : List DE) (w0 w : World) (n : Nat) (st : ST g cap F n w0 w l) (a b : Nat) (hab : a ≤ b) (hb : b ≤ n) :
    Calls Tryd.prog 151 #[.slice (some ⟨g, 0, none⟩) n cap, .int .i64 a, .int .i64 b, .func (.func f) #[] #[]] w fun e w' => e = .returned (.tuple #[]) ∧ ∃ l', ST g cap F n w0 w' l' ∧ SameOut l l' a b ∧ SortedOn cmpD l' a b := by
  obtain ⟨hcap, hmax⟩ := st.caps
  have hsm := st.small
  have HST := Lib.hid st
  have HCMP := Lib.hid HF
  clear st HF
  go_enter Tryd.func151, Tryd.ntmps151
  go_wp2_with fail
  go_loopw [8, 9] (fun i _ wr => ∃ (k : Nat) (l' : List DE), a + 1 ≤ k ∧ (k ≤ b ∨ k = a + 1) ∧ i = .int .i64 k ∧ ST g cap F n w0 wr l' ∧ SameOut l l' a b ∧ SortedOn cmpD l' a k) (fun i _ _ => b - (intOf i).toNat)
  case atStart => exact ⟨a + 1, l, Nat.le_refl _, .inr rfl, by go_num, HST.out, .refl _ _ _, fun k h1 h2 => by omega⟩
  case round =>
    obtain ⟨k, l', hk1, hk2, rfl, hs, hso, hor⟩ := hrel
    have HS := Lib.hid hs
    have HSO := Lib.hid hso
    have HOR := Lib.hid hor
    clear hs hso hor
    by_cases hlt : k < b
    · go_wp2_with fail
      go_loopw [9] (fun j wq => ∃ (jn : Nat) (lj : List DE), j = .int .i64 jn ∧ ST g cap F n w0 wq lj ∧ Ins cmpD l' lj a k jn) (fun j _ => (intOf j).toNat)
      case atStart => exact ⟨k, l', rfl, HS.out, Ins.start HOR.out (by omega)⟩
      case round =>
        obtain ⟨jn, lj, rfl, hs, hins⟩ := hrel
        have hj1 := hins.lo
        have hj2 := hins.hi
        have HINS := Lib.hid hins
        by_cases hja : a < jn
        · obtain ⟨j, rfl⟩ : ∃ j, jn = j + 1 := ⟨jn - 1, by omega⟩
          obtain ⟨A1, m1, c1, r1, n1, e1, g1, p1, q1⟩ := hs.at_ (i := j + 1) (by omega)
          obtain ⟨A2, m2, c2, r2, n2, e2, g2, p2, q2⟩ := hs.at_ (i := j) (by omega)
          have HLEN := Lib.hid hs.len
          have HS' := Lib.hid hs
          have HCALL := Lib.hid (ST.cmp HCMP.out g1 g2)
          have hjn : (0 : Int) ≤ (j : Int) + 1 ∧ (j : Int) + 1 < (n : Int) := by omega
          have hjn' : j < n := by omega
          have wj := IntWalk.i64_in (j : Int) (by omega)
          have hdec : decide ((a : Int) < (j : Int) + 1) = true := by simp; omega
          have HE1 := Lib.hid e1
          have HE2 := Lib.hid e2
          clear hs e1 e2 g1 g2 p1 p2 hins
          go_wp2_with fail
          refine Tab.wp_region_tab (Tab.Ext fun _ => False) (by kernel_rfl) (by kernel_rfl) (fun _ => Tab.Ext.refl _ _) (fun _ _ _ h k => h.trans k) ?_
          iterate 14 (first | (refine Tab.tab_moveE _ rfl (Tab.silent_true _) (.inl rfl) rfl rfl (fun _ => Tab.Ext.refl _ _) ?_; apply Exists.intro; refine And.intro ?_ ?_; focus (simp [Tab.Env.ev, Tab.Env.get]; rfl)) | (refine Tab.tab_moveE _ rfl (Tab.silent_true _) (.inr rfl) rfl rfl (fun _ => Tab.Ext.refl _ _) ?_; apply Exists.intro; refine And.intro ?_ ?_; focus (simp [Tab.Env.ev, Tab.Env.get]; rfl)) | refine Tab.tab_skip rfl (Tab.silent_true _) rfl ?_ | (refine Tab.tab_repE rfl (Tab.silent_true _) rfl (fun _ _ h => by cases h) rfl (fun _ => Tab.Ext.refl _ _) ?_; apply Exists.intro; refine And.intro (fun l w' _ _ hw => ?_) ?_; focus (go_simp; rfl)) | (refine Tab.tab_repE rfl (Tab.silent_true _) rfl (fun _ _ h => by cases h) rfl (fun _ => Tab.Ext.refl _ _) ?_; apply Exists.intro; refine And.intro (fun l w' hs hc hw => ?_) ?_; focus (go_simp; rfl)))
          refine Tab.tab_callv (f := f) (.int .i64 (cmpD ⟨.slice A1 m1 c1, r1, n1⟩ ⟨.slice A2 m2 c2, r2, n2⟩)) rfl rfl rfl rfl rfl HCMP.out.cf rfl (fun l_ w' _ _ _ hw => ?_) ?_
          · show Calls _ _ #[DE.val ⟨.slice A1 m1 c1, r1, n1⟩, DE.val ⟨.slice A2 m2 c2, r2, n2⟩] w' _
            refine (HCALL.out w' hw).mono ?_
            rintro e_ w_ ⟨rfl, hb_⟩
            exact ⟨rfl, Tab.Ext.of_below hb_, trivial⟩
          iterate 2 (first | (refine Tab.tab_moveE _ rfl (Tab.silent_true _) (.inl rfl) rfl rfl (fun _ => Tab.Ext.refl _ _) ?_; apply Exists.intro; refine And.intro ?_ ?_; focus (simp [Tab.Env.ev, Tab.Env.get]; rfl)) | (refine Tab.tab_moveE _ rfl (Tab.silent_true _) (.inr rfl) rfl rfl (fun _ => Tab.Ext.refl _ _) ?_; apply Exists.intro; refine And.intro ?_ ?_; focus (simp [Tab.Env.ev, Tab.Env.get]; rfl)) | refine Tab.tab_skip rfl (Tab.silent_true _) rfl ?_ | (refine Tab.tab_repE rfl (Tab.silent_true _) rfl (fun _ _ h => by cases h) rfl (fun _ => Tab.Ext.refl _ _) ?_; apply Exists.intro; refine And.intro (fun l w' _ _ hw => ?_) ?_; focus (go_simp; rfl)) | (refine Tab.tab_repE rfl (Tab.silent_true _) rfl (fun _ _ h => by cases h) rfl (fun _ => Tab.Ext.refl _ _) ?_; apply Exists.intro; refine And.intro (fun l w' hs hc hw => ?_) ?_; focus (go_simp; rfl)))
          intro a_ w_ hw_ hsat_
          refine Tab.fin_of_sat rfl ?_ hsat_
          simp only [Tab.fin, Act.put, List.setIfInBounds_toArray, List.set_cons_succ, List.set_cons_zero]
          have hs' := HS'.out.laterd hw_
          clear hsat_ hw_ q1 q2 HCALL HS'
          by_cases hc : cmpD ⟨.slice A1 m1 c1, r1, n1⟩ ⟨.slice A2 m2 c2, r2, n2⟩ < 0
          · rw [decide_eq_true hc]
            have HINS2 := Lib.hid (HINS.out.step (by rw [HLEN.out]; omega) hja (by rw [show j + 1 - 1 = j by omega, HE1.out, HE2.out]; exact hc))
            obtain ⟨A1', m1', c1', r1', n1', e1, g1, p1, -⟩ := hs'.at_ (i := j + 1) (by omega)
            obtain ⟨A2', m2', c2', r2', n2', e2, g2, p2, -⟩ := hs'.at_ (i := j) (by omega)
            have hfz := fun i => hs'.frozen i
            have HSW := Lib.hid (hs'.swap (i := j + 1) (j := j) (by omega) (by omega))
            rw [e1, e2] at HSW
            clear hc e1 e2 g1 g2 hs'
            go_wp2_with fail
            refine Tab.wp_region_tabC (fun _ _ => True) (Tab.stage2C 15 17 (fun b1_ b2_ w_' => w_' = if b2_ = true then ((((w_.drew.setCell ⟨g, (j + 1) * 2, none⟩ (.slice A2' m2' c2')).setCell ⟨g, (j + 1) * 2 + 1, none⟩ (.int .i64 n2')).setCell ⟨g, j * 2, none⟩ (.slice A1' m1' c1')).setCell ⟨g, j * 2 + 1, none⟩ (.int .i64 n1')) else if b1_ = true then ((w_.drew.setCell ⟨g, (j + 1) * 2, none⟩ (.slice A2' m2' c2')).setCell ⟨g, (j + 1) * 2 + 1, none⟩ (.int .i64 n2')) else w_.drew)) (by kernel_rfl) (by kernel_rfl) (fun _ => trivial) (fun _ _ _ _ _ => trivial) (Tab.stage2C_start rfl) ?_
            iterate 15 (first | (refine Tab.tab_moveE _ rfl (Tab.silent_at2 (by decide)) (.inl rfl) rfl rfl (fun _ => trivial) ?_; apply Exists.intro; refine And.intro ?_ ?_; focus (simp [Tab.Env.ev, Tab.Env.get]; rfl)) | (refine Tab.tab_moveE _ rfl (Tab.silent_at2 (by decide)) (.inr rfl) rfl rfl (fun _ => trivial) ?_; apply Exists.intro; refine And.intro ?_ ?_; focus (simp [Tab.Env.ev, Tab.Env.get]; rfl)) | refine Tab.tab_skip rfl (Tab.silent_at2 (by decide)) rfl ?_ | (refine Tab.tab_repE rfl (Tab.silent_at2 (by decide)) rfl (fun _ _ h => by cases h) rfl (fun _ => trivial) ?_; apply Exists.intro; refine And.intro (fun l w' _ _ hw => ?_) ?_; focus (go_simp; rfl)) | (refine Tab.tab_repE rfl (Tab.silent_at2 (by decide)) rfl (fun _ _ h => by cases h) rfl (fun _ => trivial) ?_; apply Exists.intro; refine And.intro (fun l w' hs hc hw => ?_) ?_; focus (first | (go_simp; rfl) | (have h := Tab.stage2C_before hc hs ⟨by kernel_rfl, by kernel_rfl⟩; simp only [Bool.false_eq_true, if_false] at h; subst h; go_simp; rfl))))
            (refine Tab.tab_act rfl rfl (fun _ _ h => by cases h) rfl (fun l w' hsz hs hc hw => ?_) ?_; focus (obtain ⟨h2_, h⟩ := Tab.stage2C_first hc hs (by kernel_rfl); simp only [Bool.false_eq_true, if_false] at h; subst h; refine ⟨((w_.drew.setCell ⟨g, (j + 1) * 2, none⟩ (.slice A2' m2' c2')).setCell ⟨g, (j + 1) * 2 + 1, none⟩ (.int .i64 n2')), ?_, trivial, Tab.stage2C_done1 rfl h2_ (by rw [hsz]; decide) (by decide)⟩; go_simp; done))
            iterate 1 (first | (refine Tab.tab_moveE _ rfl (Tab.silent_at2 (by decide)) (.inl rfl) rfl rfl (fun _ => trivial) ?_; apply Exists.intro; refine And.intro ?_ ?_; focus (simp [Tab.Env.ev, Tab.Env.get]; rfl)) | (refine Tab.tab_moveE _ rfl (Tab.silent_at2 (by decide)) (.inr rfl) rfl rfl (fun _ => trivial) ?_; apply Exists.intro; refine And.intro ?_ ?_; focus (simp [Tab.Env.ev, Tab.Env.get]; rfl)) | refine Tab.tab_skip rfl (Tab.silent_at2 (by decide)) rfl ?_ | (refine Tab.tab_repE rfl (Tab.silent_at2 (by decide)) rfl (fun _ _ h => by cases h) rfl (fun _ => trivial) ?_; apply Exists.intro; refine And.intro (fun l w' _ _ hw => ?_) ?_; focus (go_simp; rfl)) | (refine Tab.tab_repE rfl (Tab.silent_at2 (by decide)) rfl (fun _ _ h => by cases h) rfl (fun _ => trivial) ?_; apply Exists.intro; refine And.intro (fun l w' hs hc hw => ?_) ?_; focus (go_simp; rfl)))
            (refine Tab.tab_act rfl rfl (fun _ _ h => by cases h) rfl (fun l w' hsz hs hc hw => ?_) ?_; focus (obtain ⟨h1_, h⟩ := Tab.stage2C_second hc hs (by kernel_rfl); simp only [Bool.false_eq_true, if_false, if_true] at h; subst h; refine ⟨((((w_.drew.setCell ⟨g, (j + 1) * 2, none⟩ (.slice A2' m2' c2')).setCell ⟨g, (j + 1) * 2 + 1, none⟩ (.int .i64 n2')).setCell ⟨g, j * 2, none⟩ (.slice A1' m1' c1')).setCell ⟨g, j * 2 + 1, none⟩ (.int .i64 n1')), ?_, trivial, Tab.stage2C_done2 rfl h1_ (by rw [hsz]; decide) (by decide)⟩; go_simp; done))
            intro l_ a_ w_ hall_ hcl_ _ hsat_
            have hw_ := Tab.stage2C_end hcl_ hall_ (by decide)
            simp only [if_true] at hw_
            subst hw_
            refine Tab.fin_of_sat rfl ?_ hsat_
            simp only [Tab.fin, Act.put, List.setIfInBounds_toArray, List.set_cons_succ, List.set_cons_zero]
            go_wp2_with fail
            go_roundw
            case rel => exact ⟨j, _, by go_num, HSW.out, HINS2.out⟩
            case measure => simp [intOf] <;> omega
          · rw [decide_eq_false hc]
            have HD := Lib.hid (HINS.out.done cmpD_ord (.inr (by rw [show j + 1 - 1 = j by omega, HE1.out, HE2.out]; exact hc)))
            have HSM := Lib.hid (HSO.out.trans (HINS.out.same.wide (Nat.le_refl _) hlt))
            have HS' := Lib.hid hs'
            clear hc hs'
            go_wp2_with fail
            go_roundw
            case rel => exact ⟨k + 1, lj, by omega, .inl hlt, by go_num, HS'.out, HSM.out, HD.out⟩
            case measure => simp [intOf] <;> omega
        · obtain rfl : jn = a := by omega
          have HD := Lib.hid (HINS.out.done cmpD_ord (.inl rfl))
          have HSM := Lib.hid (HSO.out.trans (HINS.out.same.wide (Nat.le_refl _) hlt))
          have HS' := Lib.hid hs
          have hdec : decide ((jn : Int) < (jn : Int)) = false := by simp
          clear hins hs
          go_wp2_with fail
          refine Tab.wp_region_tab (Tab.Ext fun _ => False) (by kernel_rfl) (by kernel_rfl) (fun _ => Tab.Ext.refl _ _) (fun _ _ _ h k => h.trans k) ?_
          iterate 17 (first | (refine Tab.tab_moveE _ rfl (Tab.silent_true _) (.inl rfl) rfl rfl (fun _ => Tab.Ext.refl _ _) ?_; apply Exists.intro; refine And.intro ?_ ?_; focus (simp [Tab.Env.ev, Tab.Env.get]; rfl)) | (refine Tab.tab_moveE _ rfl (Tab.silent_true _) (.inr rfl) rfl rfl (fun _ => Tab.Ext.refl _ _) ?_; apply Exists.intro; refine And.intro ?_ ?_; focus (simp [Tab.Env.ev, Tab.Env.get]; rfl)) | refine Tab.tab_skip rfl (Tab.silent_true _) rfl ?_ | (refine Tab.tab_repE rfl (Tab.silent_true _) rfl (fun _ _ h => by cases h) rfl (fun _ => Tab.Ext.refl _ _) ?_; apply Exists.intro; refine And.intro (fun l w' _ _ hw => ?_) ?_; focus (go_simp; rfl)) | (refine Tab.tab_repE rfl (Tab.silent_true _) rfl (fun _ _ h => by cases h) rfl (fun _ => Tab.Ext.refl _ _) ?_; apply Exists.intro; refine And.intro (fun l w' hs hc hw => ?_) ?_; focus (go_simp; rfl)))
          intro a_ w_ hw_ hsat_
          refine Tab.fin_of_sat rfl ?_ hsat_
          simp only [Tab.fin, Act.put, List.setIfInBounds_toArray, List.set_cons_succ, List.set_cons_zero]
          have hs' := Lib.hid (HS'.out.laterd hw_)
          clear hsat_ hw_
          go_wp2_with fail
          go_roundw
          case rel => exact ⟨k + 1, lj, by omega, .inl hlt, by go_num, hs'.out, HSM.out, HD.out⟩
          case measure => simp [intOf] <;> omega
    · go_wp2_with fail
      exact bodyPost_end (results_none rfl _ _ _) rfl ⟨rfl, l', HS.out, HSO.out, HOR.out.narrow (Nat.le_refl _) (by omega)⟩
end Go.Proofs.YthejmnmkbldacaaDoor

namespace Go.Proofs.YthejmnmkbldacaaDoor
open Go Go.RowKit

section
variable {α : Type}
/-- elements with a number that the order does not look at -/
structure Cnt (c : α → α → Int) (n : α → Int) (s : α → Int → α) : Prop where
  ord : CmpOrd c
  ns : ∀ x m, n (s x m) = m
  ss : ∀ x m k, s (s x m) k = s x k
  sn : ∀ x, s x (n x) = x
  cs : ∀ x m y, c (s x m) y = c x y
def sumN (n : α → Int) : List α → Int
  | [] => 0
  | d :: l => n d + sumN n l
def absN (n : α → Int) : List α → Int
  | [] => 0
  | d :: l => (n d).natAbs + absN n l
/-- the numbers of those that compare equal to r -/
def tot (c : α → α → Int) (n : α → Int) (r : α) : List α → Int
  | [] => 0
  | d :: l => (if c d r = 0 then n d else 0) + tot c n r l
variable {c : α → α → Int} {n : α → Int} {s : α → Int → α}
theorem sumN_append (l r : List α) : sumN n (l ++ r) = sumN n l + sumN n r := by
  induction l with
  | nil => simp [sumN]
  | cons d l ih => simp only [List.cons_append, sumN, ih]; omega
theorem absN_append (l r : List α) : absN n (l ++ r) = absN n l + absN n r := by
  induction l with
  | nil => simp [absN]
  | cons d l ih => simp only [List.cons_append, absN, ih]; omega
theorem tot_append (x : α) (l r : List α) : tot c n x (l ++ r) = tot c n x l + tot c n x r := by
  induction l with
  | nil => simp [tot]
  | cons d l ih => simp only [List.cons_append, tot, ih]; omega
theorem absN_nonneg (l : List α) : 0 ≤ absN n l := by
  induction l with
  | nil => simp [absN]
  | cons d l ih => simp only [absN]; omega
theorem sumN_abs (l : List α) : (sumN n l).natAbs ≤ absN n l := by
  induction l with
  | nil => simp [sumN, absN]
  | cons d l ih => simp only [sumN, absN]; omega
theorem absN_mem {l : List α} {d : α} (h : d ∈ l) : (n d).natAbs ≤ absN n l := by
  induction l with
  | nil => cases h
  | cons e l ih =>
    have := absN_nonneg (n := n) l
    simp only [absN]
    rcases List.mem_cons.1 h with rfl | h
    · omega
    · have := ih h; omega
theorem sumN_perm {l r : List α} (h : l.Perm r) : sumN n l = sumN n r := by
  induction h with
  | nil => rfl
  | cons x _ ih => simp only [sumN, ih]
  | swap x y l => simp only [sumN]; omega
  | trans _ _ h1 h2 => exact h1.trans h2
theorem absN_perm {l r : List α} (h : l.Perm r) : absN n l = absN n r := by
  induction h with
  | nil => rfl
  | cons x _ ih => simp only [absN, ih]
  | swap x y l => simp only [absN]; omega
  | trans _ _ h1 h2 => exact h1.trans h2
theorem tot_perm (x : α) {l r : List α} (h : l.Perm r) : tot c n x l = tot c n x r := by
  induction h with
  | nil => rfl
  | cons x _ ih => simp only [tot, ih]
  | swap x y l => simp only [tot]; omega
  | trans _ _ h1 h2 => exact h1.trans h2
theorem CmpOrd.eq_trans (H : CmpOrd c) {a b d : α} (h1 : c a b = 0) (h2 : c b d = 0) : c a d = 0 := by
  have t1 := H.trans (Int.le_of_eq h1) (Int.le_of_eq h2)
  have e1 := H.anti a b
  have e2 := H.anti b d
  have t2 := H.trans (a := d) (b := b) (d := a) (by omega) (by omega)
  have e3 := H.anti a d
  omega
theorem CmpOrd.lt_of_lt_le (H : CmpOrd c) {a b d : α} (h1 : c a b < 0) (h2 : c b d ≤ 0) : c a d < 0 := by
  have t1 := H.trans (Int.le_of_lt h1) h2
  rcases Int.lt_or_lt_of_ne (show c a d ≠ 0 from fun e => by
    have e1 := H.anti a d
    have t2 := H.trans (a := b) (b := d) (d := a) h2 (by omega)
    have e2 := H.anti a b
    omega) with h | h
  · exact h
  · omega
theorem CmpOrd.lt_of_le_lt (H : CmpOrd c) {a b d : α} (h1 : c a b ≤ 0) (h2 : c b d < 0) : c a d < 0 := by
  have t1 := H.trans h1 (Int.le_of_lt h2)
  rcases Int.lt_or_lt_of_ne (show c a d ≠ 0 from fun e => by
    have e1 := H.anti a d
    have t2 := H.trans (a := d) (b := a) (d := b) (by omega) h1
    have e2 := H.anti b d
    omega) with h | h
  · exact h
  · omega
theorem tot_congr (H : CmpOrd c) {x y : α} (h : c x y = 0) (l : List α) : tot c n x l = tot c n y l := by
  induction l with
  | nil => rfl
  | cons d l ih =>
    simp only [tot, ih]
    have e : c d x = 0 ↔ c d y = 0 := ⟨fun k => H.eq_trans k h, fun k => H.eq_trans k (by have := H.anti x y; omega)⟩
    by_cases k : c d x = 0
    · rw [if_pos k, if_pos (e.1 k)]
    · rw [if_neg k, if_neg (fun k' => k (e.2 k'))]
theorem tot_zero {x : α} {l : List α} (h : ∀ d, d ∈ l → c d x ≠ 0) : tot c n x l = 0 := by
  induction l with
  | nil => rfl
  | cons d l ih =>
    simp only [tot]
    rw [if_neg (h d List.mem_cons_self), ih fun e he => h e (List.mem_cons_of_mem _ he)]
    rfl

/-- strictly in order -/
def Strict (c : α → α → Int) (l : List α) : Prop := l.Pairwise fun a b => c a b < 0
theorem tot_strict (H : CmpOrd c) {l : List α} (h : Strict c l) {d : α} (hd : d ∈ l) : tot c n d l = n d := by
  induction l with
  | nil => cases hd
  | cons e l ih =>
    have hp := List.pairwise_cons.1 h
    simp only [tot]
    rcases List.mem_cons.1 hd with rfl | hd'
    · rw [if_pos (H.self d), tot_zero fun x hx => ?_]
      · omega
      · have := hp.1 x hx
        have := H.anti d x
        omega
    · rw [if_neg (by have := hp.1 d hd'; omega), ih hp.2 hd']
      omega

/-- where the adding up stands -/
structure Grp (c : α → α → Int) (n : α → Int) (s : α → Int → α) (pre out : List α) : Prop where
  mem : ∀ x, x ∈ out → ∃ e, e ∈ pre ∧ x = s e (n x)
  strict : Strict c out
  last : pre ≠ [] → ∃ x y, out.getLast? = some x ∧ pre.getLast? = some y ∧ c x y = 0
  tot : ∀ r, tot c n r out = tot c n r pre
  sum : sumN n out = sumN n pre
  abs : absN n out ≤ absN n pre
  len : out.length ≤ pre.length
theorem Grp.start : Grp c n s ([] : List α) [] := ⟨fun _ h => (by cases h), List.Pairwise.nil, fun h => absurd rfl h, fun _ => rfl, rfl, Int.le_refl _, Nat.le_refl _⟩
theorem Grp.empty {pre : List α} (h : Grp c n s pre []) : pre = [] := by
  cases pre with
  | nil => rfl
  | cons a l =>
    obtain ⟨x, y, hx, _⟩ := h.last (by simp)
    cases hx
/-- a new one -/
theorem Grp.new (H : Cnt c n s) {pre out : List α} {d : α} (h : Grp c n s pre out) (hs : ∀ y, pre.getLast? = some y → c y d ≤ 0) (hn : ∀ x, out.getLast? = some x → c x d ≠ 0) : Grp c n s (pre ++ [d]) (out ++ [d]) where
  mem x hx := by
    rcases List.mem_append.1 hx with hx | hx
    · obtain ⟨e, he, h1⟩ := h.mem x hx
      exact ⟨e, List.mem_append_left _ he, h1⟩
    · rw [List.mem_singleton.1 hx]
      exact ⟨d, by simp, (H.sn d).symm⟩
  strict := by
    refine List.pairwise_append.2 ⟨h.strict, List.pairwise_singleton _ _, fun a ha b hb => ?_⟩
    rw [List.mem_singleton.1 hb]
    have hne : pre ≠ [] := by
      obtain ⟨e, he, _⟩ := h.mem a ha
      exact List.ne_nil_of_mem he
    obtain ⟨x, y, hx, hy, hxy⟩ := h.last hne
    have h1 : c x d < 0 := by
      have h2 := H.ord.trans (Int.le_of_eq hxy) (hs y hy)
      have := hn x hx
      omega
    have h2 : c a x ≤ 0 := by
      obtain ⟨o, rfl⟩ : ∃ o, out = o ++ [x] := by
        have := List.getLast?_eq_some_iff.1 hx
        exact this
      rcases List.mem_append.1 ha with ha | ha
      · exact Int.le_of_lt ((List.pairwise_append.1 h.strict).2.2 a ha x (by simp))
      · rw [List.mem_singleton.1 ha]; exact Int.le_of_eq (H.ord.self x)
    exact H.ord.lt_of_le_lt h2 h1
  last _ := ⟨d, d, by simp, by simp, H.ord.self d⟩
  tot r := by rw [tot_append, tot_append, h.tot]
  sum := by rw [sumN_append, sumN_append, h.sum]
  abs := by rw [absN_append, absN_append]; have := h.abs; omega
  len := by have := h.len; simp; omega
/-- one that is there -/
theorem Grp.add (H : Cnt c n s) {pre out : List α} {x d : α} (h : Grp c n s pre (out ++ [x])) (he : c x d = 0) : Grp c n s (pre ++ [d]) (out ++ [s x (n x + n d)]) where
  mem y hy := by
    rcases List.mem_append.1 hy with hy | hy
    · obtain ⟨e, he, h1⟩ := h.mem y (List.mem_append_left _ hy)
      exact ⟨e, List.mem_append_left _ he, h1⟩
    · rw [List.mem_singleton.1 hy]
      obtain ⟨e, he, h1⟩ := h.mem x (by simp)
      refine ⟨e, List.mem_append_left _ he, ?_⟩
      rw [h1, H.ss, H.ns, H.ns]
  strict := by
    obtain ⟨p1, _, p2⟩ := List.pairwise_append.1 h.strict
    refine List.pairwise_append.2 ⟨p1, List.pairwise_singleton _ _, fun a ha b hb => ?_⟩
    rw [List.mem_singleton.1 hb]
    have h1 := p2 a ha x (by simp)
    have e1 := H.ord.anti (s x (n x + n d)) a
    rw [H.cs] at e1
    have e2 := H.ord.anti x a
    omega
  last _ := ⟨s x (n x + n d), d, by simp, by simp, by rw [H.cs]; exact he⟩
  tot r := by
    have := h.tot r
    rw [tot_append] at this
    rw [tot_append, tot_append, ← this]
    simp only [Go.Proofs.YthejmnmkbldacaaDoor.tot, H.cs, H.ns]
    have e : c d r = 0 ↔ c x r = 0 := ⟨fun k => H.ord.eq_trans he k, fun k => H.ord.eq_trans (by have := H.ord.anti x d; omega) k⟩
    by_cases k : c x r = 0
    · rw [if_pos k, if_pos k, if_pos (e.2 k)]; omega
    · rw [if_neg k, if_neg k, if_neg (fun k' => k (e.1 k'))]; omega
  sum := by
    have := h.sum
    rw [sumN_append] at this
    rw [sumN_append, sumN_append, ← this]
    simp only [sumN, H.ns]
    omega
  abs := by
    have := h.abs
    rw [absN_append] at this
    rw [absN_append, absN_append]
    simp only [absN, H.ns] at this ⊢
    omega
  len := by have := h.len; simp at this ⊢; omega

/-- what a canonical list is of a list -/
structure Canon (c : α → α → Int) (n : α → Int) (s : α → Int → α) (l out : List α) : Prop where
  mem : ∀ x, x ∈ out → ∃ e, e ∈ l ∧ x = s e (n x)
  strict : Strict c out
  nz : ∀ x, x ∈ out → n x ≠ 0
  tot : ∀ r, tot c n r out = tot c n r l
  sum : sumN n out = sumN n l
  abs : absN n out ≤ absN n l
  len : out.length ≤ l.length
theorem tot_filter (r : α) (l : List α) : tot c n r (l.filter fun d => n d ≠ 0) = tot c n r l := by
  induction l with
  | nil => rfl
  | cons d l ih =>
    rw [List.filter_cons]
    by_cases h : n d = 0
    · rw [if_neg (by simp [h]), ih]
      simp only [tot]
      rw [h]
      by_cases k : c d r = 0
      · rw [if_pos k]; omega
      · rw [if_neg k]; omega
    · simp only [h, ne_eq, not_false_eq_true, decide_true, if_true, tot, ih]
theorem sumN_filter (l : List α) : sumN n (l.filter fun d => n d ≠ 0) = sumN n l := by
  induction l with
  | nil => rfl
  | cons d l ih =>
    rw [List.filter_cons]
    by_cases h : n d = 0
    · rw [if_neg (by simp [h]), ih]
      simp only [sumN]
      omega
    · simp only [h, ne_eq, not_false_eq_true, decide_true, if_true, sumN, ih]
theorem absN_filter (p : α → Bool) (l : List α) : absN n (l.filter p) ≤ absN n l := by
  induction l with
  | nil => exact Int.le_refl _
  | cons d l ih =>
    rw [List.filter_cons]
    by_cases h : p d = true
    · simp only [h, if_true, absN]; omega
    · simp only [h, if_false, absN, Bool.false_eq_true]; omega
theorem Grp.canon {l pre out : List α} (h : Grp c n s pre out) (hp : pre.Perm l) : Canon c n s l (out.filter fun d => n d ≠ 0) where
  mem x hx := by
    obtain ⟨e, he, h1⟩ := h.mem x (List.mem_filter.1 hx).1
    exact ⟨e, hp.mem_iff.1 he, h1⟩
  strict := h.strict.filter _
  nz x hx := by simpa using (List.mem_filter.1 hx).2
  tot r := by rw [tot_filter, h.tot, tot_perm r hp]
  sum := by rw [sumN_filter, h.sum, sumN_perm hp]
  abs := Int.le_trans (absN_filter _ _) (by rw [← absN_perm hp]; exact h.abs)
  len := Nat.le_trans (List.length_filter_le _ _) (Nat.le_trans h.len (Nat.le_of_eq hp.length_eq))
/-- the same rows with the same numbers -/
def Same (c : α → α → Int) (n : α → Int) : List α → List α → Prop
  | [], [] => True
  | a :: l, b :: r => c a b = 0 ∧ n a = n b ∧ Same c n l r
  | _, _ => False
theorem same_of_tot (H : CmpOrd c) : ∀ {l r : List α}, Strict c l → Strict c r → (∀ x, x ∈ l → n x ≠ 0) → (∀ x, x ∈ r → n x ≠ 0) → (∀ x, tot c n x l = tot c n x r) → Same c n l r
  | [], [], _, _, _, _, _ => trivial
  | [], b :: r, _, hr, _, zr, ht => by
    have h1 := tot_strict (n := n) H hr (d := b) (by simp)
    rw [← ht b] at h1
    exact absurd h1.symm (zr b (by simp))
  | a :: l, [], hl, _, zl, _, ht => by
    have h1 := tot_strict (n := n) H hl (d := a) (by simp)
    rw [ht a] at h1
    exact absurd h1.symm (zl a (by simp))
  | a :: l, b :: r, hl, hr, zl, zr, ht => by
    obtain ⟨pl, ql⟩ := List.pairwise_cons.1 hl
    obtain ⟨pr, qr⟩ := List.pairwise_cons.1 hr
    have ha := tot_strict (n := n) H hl (d := a) (by simp)
    have hb := tot_strict (n := n) H hr (d := b) (by simp)
    have hab : c a b = 0 := by
      rcases Int.lt_or_lt_of_ne (a := c a b) (b := 0) |> fun f => (Classical.em (c a b = 0)).imp_right f with h | h | h
      · exact h
      · exfalso
        have := ht a
        rw [ha, tot_zero fun d hd => ?_] at this
        · exact zl a (by simp) this
        · have e1 : c a d < 0 := by
            rcases List.mem_cons.1 hd with rfl | hd
            · exact h
            · exact H.lt_of_lt_le h (Int.le_of_lt (pr d hd))
          have := H.anti a d
          omega
      · exfalso
        have h' : c b a < 0 := by have := H.anti a b; omega
        have := ht b
        rw [hb, tot_zero fun d hd => ?_] at this
        · exact zr b (by simp) this.symm
        · have e1 : c b d < 0 := by
            rcases List.mem_cons.1 hd with rfl | hd
            · exact h'
            · exact H.lt_of_lt_le h' (Int.le_of_lt (pl d hd))
          have := H.anti b d
          omega
    have hn : n a = n b := by rw [← ha, ht a, tot_congr H hab, hb]
    refine ⟨hab, hn, same_of_tot H ql qr (fun x hx => zl x (List.mem_cons_of_mem _ hx)) (fun x hx => zr x (List.mem_cons_of_mem _ hx)) fun x => ?_⟩
    have := ht x
    simp only [tot] at this
    have e : c a x = 0 ↔ c b x = 0 := ⟨fun k => H.eq_trans (by have := H.anti a b; omega) k, fun k => H.eq_trans hab k⟩
    by_cases k : c a x = 0
    · rw [if_pos k, if_pos (e.1 k)] at this; omega
    · rw [if_neg k, if_neg (fun k' => k (e.2 k'))] at this; omega
end
end Go.Proofs.YthejmnmkbldacaaDoor

namespace Go.Proofs.YthejmnmkbldacaaDoor
open Go.RowKit
attribute [local go_sem] Tab.Env.ev Tab.Env.get

/-- what symMerge does to the parts from a to m and from m to b -/
def SymC (f : FuncId) (g cap : Nat) (F : Nat → Prop) (n a m b : Nat) : Prop := ∀ (l : List DE) (w0 w : World), ST g cap F n w0 w l → a < m → m < b → b ≤ n → SortedOn cmpD l a m → SortedOn cmpD l m b →
  Calls Tryd.prog 152 #[.slice (some ⟨g, 0, none⟩) n cap, .int .i64 a, .int .i64 m, .int .i64 b, .func (.func f) #[] #[]] w fun e w' => e = .returned (.tuple #[]) ∧ ∃ l', ST g cap F n w0 w' l' ∧ SameOut l l' a b ∧ SortedOn cmpD l' a b
/-- where the search in the second part stands -/
structure Find1 (l : List DE) (a b x y : Nat) : Prop where
  lo : a + 1 ≤ x
  xy : x ≤ y
  hi : y ≤ b
  less : ∀ k, a + 1 ≤ k → k < x → cmpD (dat l k) (dat l a) < 0
  more : ∀ k, y ≤ k → k < b → ¬ cmpD (dat l k) (dat l a) < 0
theorem Find1.start (l : List DE) {a b : Nat} (h : a + 1 ≤ b) : Find1 l a b (a + 1) b := ⟨Nat.le_refl _, h, Nat.le_refl _, fun k h1 h2 => by omega, fun k h1 h2 => by omega⟩
theorem Find1.up {l : List DE} {a b x y h : Nat} (hs : SortedOn cmpD l (a + 1) b) (H : Find1 l a b x y) (h1 : x ≤ h) (h2 : h < y) (hc : cmpD (dat l h) (dat l a) < 0) : Find1 l a b (h + 1) y :=
  ⟨by have := H.lo; omega, h2, H.hi, fun k k1 k2 => cmpD_ord.lt_of_le_lt (hs.le cmpD_ord (i := k) (j := h) k1 (by omega) (by have := H.hi; omega)) hc, H.more⟩
theorem Find1.down {l : List DE} {a b x y h : Nat} (hs : SortedOn cmpD l (a + 1) b) (H : Find1 l a b x y) (h1 : x ≤ h) (h2 : h < y) (hc : ¬ cmpD (dat l h) (dat l a) < 0) : Find1 l a b x h :=
  ⟨H.lo, h1, by have := H.hi; omega, H.less, fun k k1 k2 hk => hc (cmpD_ord.lt_of_le_lt (hs.le cmpD_ord (i := h) (j := k) (by have := H.lo; omega) k1 k2) hk)⟩

set_option maxHeartbeats 4000000 in
set_option maxRecDepth 100000 in
theorem symMerge_one (f : FuncId) (HF : CmpOK f) (g cap : Nat) (F : Nat → Prop) (n a m b : Nat) (hm : m = a + 1) : SymC f g cap F n a m b := by
  intro l w0 w st ham hmb hbn hL hR
  obtain ⟨hcap, hmax⟩ := st.caps
  have hsm := st.small
  have HST := Lib.hid st
  have HCMP := Lib.hid HF
  have HM := Lib.hid hm
  have e0 : ((m : Int) - a == 1) = true := by simp; omega
  rw [hm] at hR
  have HR := Lib.hid hR
  clear st HF hm hR hL
  go_enter Tryd.func152, Tryd.ntmps152
  go_wp2_with fail
  go_loopw [10, 11] (fun i j wr => ∃ (x y : Nat), i = .int .i64 x ∧ j = .int .i64 y ∧ ST g cap F n w0 wr l ∧ Find1 l a b x y) (fun i j _ => (intOf j).toNat - (intOf i).toNat)
  case atStart => exact ⟨m, b, rfl, rfl, HST.out, HM.out ▸ Find1.start l (by omega)⟩
  case round =>
    obtain ⟨x, y, rfl, rfl, hs, hf⟩ := hrel
    have f1 := hf.lo
    have f2 := hf.xy
    have f3 := hf.hi
    have HFI := Lib.hid hf
    have HS := Lib.hid hs
    by_cases hlt : x < y
    · obtain ⟨h, hh⟩ : ∃ h, (x + y) / 2 = h := ⟨_, rfl⟩
      have hh1 : x ≤ h := by omega
      have hh2 : h < y := by omega
      have hx1 : 0 ≤ (x : Int) + y := by omega
      have hx2 : (x : Int) + y < 9223372036854775808 := by omega
      have hx3 : ((x : Int) + y) / 2 = h := by omega
      obtain ⟨A1, m1, c1, r1, n1, e1, g1, p1, q1⟩ := hs.at_ (i := h) (by omega)
      obtain ⟨A2, m2, c2, r2, n2, e2, g2, p2, q2⟩ := hs.at_ (i := a) (by omega)
      have HCALL := Lib.hid (ST.cmp HCMP.out g1 g2)
      have HE1 := Lib.hid e1
      have HE2 := Lib.hid e2
      clear hs e1 e2 g1 g2 p1 p2 hf hh
      have hb1 : h < n := by omega
      have hb2 : a < n := by omega
      go_wp2_with fail
      refine Tab.wp_region_tab (Tab.Ext fun _ => False) (by kernel_rfl) (by kernel_rfl) (fun _ => Tab.Ext.refl _ _) (fun _ _ _ h k => h.trans k) ?_
      iterate 9 (first | (refine Tab.tab_moveE _ rfl (Tab.silent_true _) (.inl rfl) rfl rfl (fun _ => Tab.Ext.refl _ _) ?_; apply Exists.intro; refine And.intro ?_ ?_; focus (simp [Tab.Env.ev, Tab.Env.get]; rfl)) | (refine Tab.tab_moveE _ rfl (Tab.silent_true _) (.inr rfl) rfl rfl (fun _ => Tab.Ext.refl _ _) ?_; apply Exists.intro; refine And.intro ?_ ?_; focus (simp [Tab.Env.ev, Tab.Env.get]; rfl)) | refine Tab.tab_skip rfl (Tab.silent_true _) rfl ?_ | (refine Tab.tab_repE rfl (Tab.silent_true _) rfl (fun _ _ h => by cases h) rfl (fun _ => Tab.Ext.refl _ _) ?_; apply Exists.intro; refine And.intro (fun l w' _ _ hw => ?_) ?_; focus (go_simp; rfl)) | (refine Tab.tab_repE rfl (Tab.silent_true _) rfl (fun _ _ h => by cases h) rfl (fun _ => Tab.Ext.refl _ _) ?_; apply Exists.intro; refine And.intro (fun l w' hs hc hw => ?_) ?_; focus (go_simp; rfl)))
      refine Tab.tab_callv (f := f) (.int .i64 (cmpD ⟨.slice A1 m1 c1, r1, n1⟩ ⟨.slice A2 m2 c2, r2, n2⟩)) rfl rfl rfl rfl rfl HCMP.out.cf rfl (fun l_ w' _ _ _ hw => ?_) ?_
      · show Calls _ _ #[DE.val ⟨.slice A1 m1 c1, r1, n1⟩, DE.val ⟨.slice A2 m2 c2, r2, n2⟩] w' _
        refine (HCALL.out w' hw).mono ?_
        rintro e_ w_ ⟨rfl, hb_⟩
        exact ⟨rfl, Tab.Ext.of_below hb_, trivial⟩
      iterate 1 (first | (refine Tab.tab_moveE _ rfl (Tab.silent_true _) (.inl rfl) rfl rfl (fun _ => Tab.Ext.refl _ _) ?_; apply Exists.intro; refine And.intro ?_ ?_; focus (simp [Tab.Env.ev, Tab.Env.get]; rfl)) | (refine Tab.tab_moveE _ rfl (Tab.silent_true _) (.inr rfl) rfl rfl (fun _ => Tab.Ext.refl _ _) ?_; apply Exists.intro; refine And.intro ?_ ?_; focus (simp [Tab.Env.ev, Tab.Env.get]; rfl)) | refine Tab.tab_skip rfl (Tab.silent_true _) rfl ?_ | (refine Tab.tab_repE rfl (Tab.silent_true _) rfl (fun _ _ h => by cases h) rfl (fun _ => Tab.Ext.refl _ _) ?_; apply Exists.intro; refine And.intro (fun l w' _ _ hw => ?_) ?_; focus (go_simp; rfl)) | (refine Tab.tab_repE rfl (Tab.silent_true _) rfl (fun _ _ h => by cases h) rfl (fun _ => Tab.Ext.refl _ _) ?_; apply Exists.intro; refine And.intro (fun l w' hs hc hw => ?_) ?_; focus (go_simp; rfl)))
      intro a_ w_ hw_ hsat_
      refine Tab.fin_of_sat rfl ?_ hsat_
      simp only [Tab.fin, Act.put, List.setIfInBounds_toArray, List.set_cons_succ, List.set_cons_zero]
      have hs' := Lib.hid (HS.out.laterd hw_)
      clear hsat_ hw_ q1 q2 HCALL
      by_cases hc : cmpD ⟨.slice A1 m1 c1, r1, n1⟩ ⟨.slice A2 m2 c2, r2, n2⟩ < 0
      · rw [decide_eq_true hc]
        have HN := Lib.hid (HFI.out.up HR.out hh1 hh2 (by rw [HE1.out, HE2.out]; exact hc))
        clear hc
        go_wp2_with fail
        go_roundw
        case rel => exact ⟨h + 1, y, by go_num, rfl, hs'.out, HN.out⟩
        case measure => simp [intOf] <;> omega
      · rw [decide_eq_false hc]
        have HN := Lib.hid (HFI.out.down HR.out hh1 hh2 (by rw [HE1.out, HE2.out]; exact hc))
        clear hc
        go_wp2_with fail
        go_roundw
        case rel => exact ⟨x, h, rfl, rfl, hs'.out, HN.out⟩
        case measure => simp [intOf] <;> omega
    · obtain rfl : x = y := by omega
      have hdec : decide ((x : Int) < (x : Int)) = false := by simp
      clear hs hf hlt
      go_wp2_with fail
      go_loopw [13] (fun i wr => ∃ (k : Nat) (l' : List DE), a ≤ k ∧ k ≤ x - 1 ∧ i = .int .i64 k ∧ ST g cap F n w0 wr l' ∧ Up l l' a k) (fun i _ => x - (intOf i).toNat)
      case atStart => exact ⟨a, l, Nat.le_refl _, by omega, rfl, HS.out, Up.start _ _⟩
      case round =>
        obtain ⟨k, l', k1, k2, rfl, hs, hu⟩ := hrel
        have HU := Lib.hid hu
        by_cases hlt : k < x - 1
        · have HLEN := Lib.hid (HS.out.len)
          have hdec : decide ((k : Int) < (x : Int) - 1) = true := by simp; omega
          obtain ⟨A1, m1, c1, r1, n1, e1, g1, p1, -⟩ := hs.at_ (i := k) (by omega)
          obtain ⟨A2, m2, c2, r2, n2, e2, g2, p2, -⟩ := hs.at_ (i := k + 1) (by omega)
          have hfz := fun i => hs.frozen i
          have HSW := Lib.hid (hs.swap (i := k) (j := k + 1) (by omega) (by omega))
          rw [e1, e2] at HSW
          have HU2 := Lib.hid (hu.step k1 (by rw [HLEN.out]; omega))
          have gk : k < n := by omega
          have gk1 : (k : Int) + 1 < n := by omega
          have gk2 : (0 : Int) ≤ (k : Int) + 1 := by omega
          have wi := IntWalk.i64_in ((k : Int) + 1) (by omega)
          have tj : ((k : Int) + 1).toNat = k + 1 := by omega
          clear e1 e2 g1 g2 hs hu
          go_wp2_with fail
          refine Tab.wp_region_tabC (fun _ _ => True) (Tab.stage2C 15 17 (fun b1_ b2_ w_' => w_' = if b2_ = true then ((((wr.drew.setCell ⟨g, k * 2, none⟩ (.slice A2 m2 c2)).setCell ⟨g, k * 2 + 1, none⟩ (.int .i64 n2)).setCell ⟨g, (k + 1) * 2, none⟩ (.slice A1 m1 c1)).setCell ⟨g, (k + 1) * 2 + 1, none⟩ (.int .i64 n1)) else if b1_ = true then ((wr.drew.setCell ⟨g, k * 2, none⟩ (.slice A2 m2 c2)).setCell ⟨g, k * 2 + 1, none⟩ (.int .i64 n2)) else wr.drew)) (by kernel_rfl) (by kernel_rfl) (fun _ => trivial) (fun _ _ _ _ _ => trivial) (Tab.stage2C_start rfl) ?_
          iterate 15 (first | (refine Tab.tab_moveE _ rfl (Tab.silent_at2 (by decide)) (.inl rfl) rfl rfl (fun _ => trivial) ?_; apply Exists.intro; refine And.intro ?_ ?_; focus (simp [Tab.Env.ev, Tab.Env.get]; rfl)) | (refine Tab.tab_moveE _ rfl (Tab.silent_at2 (by decide)) (.inr rfl) rfl rfl (fun _ => trivial) ?_; apply Exists.intro; refine And.intro ?_ ?_; focus (simp [Tab.Env.ev, Tab.Env.get]; rfl)) | refine Tab.tab_skip rfl (Tab.silent_at2 (by decide)) rfl ?_ | (refine Tab.tab_repE rfl (Tab.silent_at2 (by decide)) rfl (fun _ _ h => by cases h) rfl (fun _ => trivial) ?_; apply Exists.intro; refine And.intro (fun l w' _ _ hw => ?_) ?_; focus (go_simp; rfl)) | (refine Tab.tab_repE rfl (Tab.silent_at2 (by decide)) rfl (fun _ _ h => by cases h) rfl (fun _ => trivial) ?_; apply Exists.intro; refine And.intro (fun l w' hs hc hw => ?_) ?_; focus (first | (go_simp; rfl) | (have h := Tab.stage2C_before hc hs ⟨by kernel_rfl, by kernel_rfl⟩; simp only [Bool.false_eq_true, if_false] at h; subst h; go_simp; rfl))))
          (refine Tab.tab_act rfl rfl (fun _ _ h => by cases h) rfl (fun l w' hsz hs hc hw => ?_) ?_; focus (obtain ⟨h2_, h⟩ := Tab.stage2C_first hc hs (by kernel_rfl); simp only [Bool.false_eq_true, if_false] at h; subst h; refine ⟨((wr.drew.setCell ⟨g, k * 2, none⟩ (.slice A2 m2 c2)).setCell ⟨g, k * 2 + 1, none⟩ (.int .i64 n2)), ?_, trivial, Tab.stage2C_done1 rfl h2_ (by rw [hsz]; decide) (by decide)⟩; go_simp; done))
          iterate 1 (first | (refine Tab.tab_moveE _ rfl (Tab.silent_at2 (by decide)) (.inl rfl) rfl rfl (fun _ => trivial) ?_; apply Exists.intro; refine And.intro ?_ ?_; focus (simp [Tab.Env.ev, Tab.Env.get]; rfl)) | (refine Tab.tab_moveE _ rfl (Tab.silent_at2 (by decide)) (.inr rfl) rfl rfl (fun _ => trivial) ?_; apply Exists.intro; refine And.intro ?_ ?_; focus (simp [Tab.Env.ev, Tab.Env.get]; rfl)) | refine Tab.tab_skip rfl (Tab.silent_at2 (by decide)) rfl ?_ | (refine Tab.tab_repE rfl (Tab.silent_at2 (by decide)) rfl (fun _ _ h => by cases h) rfl (fun _ => trivial) ?_; apply Exists.intro; refine And.intro (fun l w' _ _ hw => ?_) ?_; focus (go_simp; rfl)) | (refine Tab.tab_repE rfl (Tab.silent_at2 (by decide)) rfl (fun _ _ h => by cases h) rfl (fun _ => trivial) ?_; apply Exists.intro; refine And.intro (fun l w' hs hc hw => ?_) ?_; focus (go_simp; rfl)))
          (refine Tab.tab_act rfl rfl (fun _ _ h => by cases h) rfl (fun l w' hsz hs hc hw => ?_) ?_; focus (obtain ⟨h1_, h⟩ := Tab.stage2C_second hc hs (by kernel_rfl); simp only [Bool.false_eq_true, if_false, if_true] at h; subst h; refine ⟨((((wr.drew.setCell ⟨g, k * 2, none⟩ (.slice A2 m2 c2)).setCell ⟨g, k * 2 + 1, none⟩ (.int .i64 n2)).setCell ⟨g, (k + 1) * 2, none⟩ (.slice A1 m1 c1)).setCell ⟨g, (k + 1) * 2 + 1, none⟩ (.int .i64 n1)), ?_, trivial, Tab.stage2C_done2 rfl h1_ (by rw [hsz]; decide) (by decide)⟩; go_simp; done))
          intro l_ a_ w_ hall_ hcl_ _ hsat_
          have hw_ := Tab.stage2C_end hcl_ hall_ (by decide)
          simp only [if_true] at hw_
          subst hw_
          refine Tab.fin_of_sat rfl ?_ hsat_
          simp only [Tab.fin, Act.put, List.setIfInBounds_toArray, List.set_cons_succ, List.set_cons_zero]
          go_wp2_with fail
          go_roundw
          case rel => exact ⟨k + 1, _, by omega, by omega, by go_num, HSW.out, HU2.out⟩
          case measure => simp [intOf] <;> omega
        · obtain rfl : k = x - 1 := by omega
          have hdec : decide (((x - 1 : Nat) : Int) < (x : Int) - 1) = false := by simp; omega
          have HS' := Lib.hid hs
          have HF := Lib.hid (hu.sorted cmpD_ord f1 f3 HR.out HFI.out.less HFI.out.more)
          clear hs hu
          go_wp2_with fail
          exact bodyPost_ret (v := .tuple #[]) (results_none rfl _ _ _) rfl ⟨rfl, l', HS'.out, HF.out⟩
end Go.Proofs.YthejmnmkbldacaaDoor
