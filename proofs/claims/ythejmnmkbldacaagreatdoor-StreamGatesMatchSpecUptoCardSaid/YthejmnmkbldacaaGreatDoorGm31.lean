/-
  What is proved: the law's comparing of rows and of differences answers true for lists that say the same. Conditions: none.
  What is proved: the program's gate and the reference's gate lie apart in memory, and what one of them does leaves the other alone. Conditions: none.
-/
import Derived.Test.YthejmnmkbldacaaGreatDoorGm22
import Derived.Test.YthejmnmkbldacaaGreatDoorGm24
import Derived.Test.YthejmnmkbldacaaGreatDoorGm29
import Derived.Test.YthejmnmkbldacaaGreatDoorGm30
set_option linter.all false
namespace Go.Proofs.YthejmnmkbldacaaGreatDoor
open Go.RowKit
attribute [local go_sem] Tab.Env.ev Tab.Env.get

theorem cmpL_len : ∀ (l r : List VD), cmpL l r = 0 → l.length = r.length
  | [], [], _ => rfl
  | [], _ :: _, h => by simp [cmpL] at h
  | _ :: _, [], h => by simp [cmpL] at h
  | a :: l, b :: r, h => by
    rw [cmpL_cons] at h
    unfold orI at h
    by_cases hz : cmpV a b = 0
    · rw [if_neg (by simp [hz])] at h
      rw [List.length_cons, List.length_cons, cmpL_len l r h]
    · rw [if_pos hz] at h
      exact absurd h hz

/-- two lists of rows that compare as equal -/
def SameRows (a b : List (List VD)) : Prop := a.length = b.length ∧ ∀ (i : Nat) (h1 : i < a.length) (h2 : i < b.length), cmpL a[i] b[i] = 0
theorem SameRows.refl (a : List (List VD)) : SameRows a a := ⟨rfl, fun _ _ _ => cmpL_self _⟩

set_option maxHeartbeats 2000000 in
set_option maxRecDepth 100000 in
theorem rowsLaw_any (F1 F1' F2 F2' : Nat → Prop) (va vb : Value) (a b : List RE) (w : World) (ha : RR w F1 F1' va a) (hb : RR w F2 F2' vb b) (hs : SameRows (a.map RE.row) (b.map RE.row)) :
    Calls Tryz.prog 13 #[va, vb] w fun e w' => e = .returned (.bool true) ∧ Below w.heap.size w w' := by
  obtain ⟨_, A, c, rfl, hc, hm, -⟩ := ha.sl
  obtain ⟨_, B, d, rfl, hc', hm', -⟩ := hb.sl
  unfold maxLen at hm hm'
  have HA := Lib.hid ha
  have HB := Lib.hid hb
  have HS := Lib.hid hs
  have hlen : b.length = a.length := by have := hs.1; rw [List.length_map, List.length_map] at this; exact this.symm
  obtain ⟨n, hln⟩ : ∃ n, a.length = n := ⟨_, rfl⟩
  rw [hlen, hln] at hc'
  rw [hln] at hc
  rw [hlen, hln]
  have HN := Lib.hid hln
  have HN2 := Lib.hid (hlen.trans hln)
  clear hs ha hb hlen hln
  go_enter Tryz.func13, Tryz.ntmps13
  go_wp2_with fail
  go_loopw [4, 5, 13] (fun _ _ i wr => ∃ k : Nat, k ≤ n ∧ i = .int .i64 k ∧ Below w.heap.size w wr) (fun _ _ i _ => n - (intOf i).toNat)
  case atStart => exact ⟨0, Nat.zero_le _, rfl, Below.refl _ _⟩
  case round =>
    obtain ⟨k, hk, rfl, hbel⟩ := hrel
    have HBL := Lib.hid hbel
    by_cases hlt : k < n
    · have hka : k < a.length := by rw [HN.out]; exact hlt
      have hkb : k < b.length := by rw [HN2.out]; exact hlt
      obtain ⟨b1, o1, ca, A1, m1, c1, row1, hv1, -, -, hb1, -, he1, hr1, x1⟩ := (HA.out.later hbel).at_ (i := k) hka
      obtain ⟨b2, o2, cb, A2, m2, c2, row2, hv2, -, -, hb2, -, he2, hr2, x2⟩ := (HB.out.later hbel).at_ (i := k) hkb
      injection hv1 with e1 e0 e2
      subst e1
      subst e2
      injection hv2 with e1 e3 e2
      subst e1
      subst e2
      have hz : cmpL row1 row2 = 0 := by
        have := HS.out.2 k (by rw [List.length_map]; exact hka) (by rw [List.length_map]; exact hkb)
        rw [List.getElem_map, List.getElem_map, ← dat_eq hka, ← dat_eq hkb, he1, he2] at this
        exact this
      have hml : m1 = m2 := by
        obtain ⟨_, _, _, _, e, _⟩ := hr1.shape
        obtain ⟨_, _, _, _, e', _⟩ := hr2.shape
        injection e with _ e _
        injection e' with _ e' _
        rw [e, e']
        exact cmpL_len _ _ hz
      subst hml
      have hz2 : (cmpL row1 row2 != 0) = false := by simp [hz]
      have HCALL := Lib.hid (fun W (hW : Below wr.heap.size wr W) => compareRowsR_any F1' F2' _ _ row1 row2 W (hr1.later hW) (hr2.later hW))
      rw [hz] at HCALL
      clear e0 e3 he1 he2 hr1 hr2 hbel hz hz2
      go_wp2_with fail
      have q1 := fun w' (h : Tab.Ext (fun _ => False) wr.drew w') => (h.cell (p := ⟨b1, o1 + k, none⟩) hb1 id).trans x1
      have q2 := fun w' (h : Tab.Ext (fun _ => False) wr.drew w') => (h.cell (p := ⟨b2, o2 + k, none⟩) hb2 id).trans x2
      have hbw := Lib.hid (fun w' (h : Tab.Ext (fun _ => False) wr.drew w') => (show Below wr.heap.size wr w' from (Below.refl _ _).drew.trans h.below))
      clear x1 x2
      refine Tab.wp_region_tab (Tab.Ext fun _ => False) (by kernel_rfl) (by kernel_rfl) (fun _ => Tab.Ext.refl _ _) (fun _ _ _ h k => h.trans k) ?_
      iterate 20 (first | (refine Tab.tab_moveE _ rfl (Tab.silent_true _) (.inl rfl) rfl rfl (fun _ => Tab.Ext.refl _ _) ?_; apply Exists.intro; refine And.intro ?_ ?_; focus (simp [Tab.Env.ev, Tab.Env.get]; rfl)) | (refine Tab.tab_moveE _ rfl (Tab.silent_true _) (.inr rfl) rfl rfl (fun _ => Tab.Ext.refl _ _) ?_; apply Exists.intro; refine And.intro ?_ ?_; focus (simp [Tab.Env.ev, Tab.Env.get]; rfl)) | refine Tab.tab_skip rfl (Tab.silent_true _) rfl ?_ | (refine Tab.tab_repE rfl (Tab.silent_true _) rfl (fun _ _ h => by cases h) rfl (fun _ => Tab.Ext.refl _ _) ?_; apply Exists.intro; refine And.intro (fun l w' _ _ hw => ?_) ?_; focus (go_simp; rfl)) | (refine Tab.tab_repE rfl (Tab.silent_true _) rfl (fun _ _ h => by cases h) rfl (fun _ => Tab.Ext.refl _ _) ?_; apply Exists.intro; refine And.intro (fun l w' hs hc hw => ?_) ?_; focus (go_simp; rfl)))
      refine Tab.tab_call_is (.int .i64 0) rfl rfl rfl cfCompareRowsR rfl (fun l_ w' _ _ _ hw => ?_) ?_
      · show Calls _ _ #[.slice A1 m1 c1, .slice A2 m1 c2] w' _
        refine (HCALL.out w' (hbw.out _ hw)).mono ?_
        rintro e_ w_ ⟨rfl, hb_⟩
        exact ⟨rfl, Tab.Ext.of_below hb_, trivial⟩
      iterate 2 (first | (refine Tab.tab_moveE _ rfl (Tab.silent_true _) (.inl rfl) rfl rfl (fun _ => Tab.Ext.refl _ _) ?_; apply Exists.intro; refine And.intro ?_ ?_; focus (simp [Tab.Env.ev, Tab.Env.get]; rfl)) | (refine Tab.tab_moveE _ rfl (Tab.silent_true _) (.inr rfl) rfl rfl (fun _ => Tab.Ext.refl _ _) ?_; apply Exists.intro; refine And.intro ?_ ?_; focus (simp [Tab.Env.ev, Tab.Env.get]; rfl)) | refine Tab.tab_skip rfl (Tab.silent_true _) rfl ?_ | (refine Tab.tab_repE rfl (Tab.silent_true _) rfl (fun _ _ h => by cases h) rfl (fun _ => Tab.Ext.refl _ _) ?_; apply Exists.intro; refine And.intro (fun l w' _ _ hw => ?_) ?_; focus (go_simp; rfl)) | (refine Tab.tab_repE rfl (Tab.silent_true _) rfl (fun _ _ h => by cases h) rfl (fun _ => Tab.Ext.refl _ _) ?_; apply Exists.intro; refine And.intro (fun l w' hs hc hw => ?_) ?_; focus (go_simp; rfl)))
      intro a_ w_ hw_ hsat_
      refine Tab.fin_of_sat rfl ?_ hsat_
      simp only [Tab.fin, Act.put, List.setIfInBounds_toArray, List.set_cons_succ, List.set_cons_zero]
      have HB2 := Lib.hid (HBL.out.trans ((hbw.out _ hw_).mono HBL.out.size))
      clear hsat_ hw_ q1 q2 hbw HCALL
      go_wp2_with fail
      go_roundw
      case rel => exact ⟨k + 1, hlt, by go_num, HB2.out⟩
      case measure => simp [intOf] <;> omega
    · obtain rfl : k = n := by omega
      go_wp2_with fail
      go_ret
      exact ⟨rfl, HBL.out⟩

theorem SameD.same {l l' : List DE} (h : SameD l l') : ∀ (i : Nat) (h1 : i < l.length) (h2 : i < l'.length), l'[i].row = l[i].row ∧ l'[i].n = l[i].n := fun i h1 h2 => by
  have e1 : (l'.map fun d => (d.row, d.n))[i]'(by rw [List.length_map]; exact h2) = (l.map fun d => (d.row, d.n))[i]'(by rw [List.length_map]; exact h1) := by
    congr 1
  rw [List.getElem_map, List.getElem_map] at e1
  exact ⟨congrArg Prod.fst e1, congrArg Prod.snd e1⟩
/-- two lists of differences that say the same, one by one -/
def SameDs (a b : List DE) : Prop := a.length = b.length ∧ ∀ (i : Nat) (h1 : i < a.length) (h2 : i < b.length), cmpL a[i].row b[i].row = 0 ∧ a[i].n = b[i].n
theorem SameDs.of_same {a b : List DE} (h : Same cmpD DE.n a b) : SameDs a b := ⟨h.len, fun i h1 h2 => h.get i h1 h2⟩
theorem SameD.len {l l' : List DE} (h : SameD l l') : l'.length = l.length := by
  have := congrArg List.length h
  rwa [List.length_map, List.length_map] at this
theorem SameDs.copy {a b c : List DE} (h : SameD a c) (h2 : SameDs a b) : SameDs c b := ⟨h.len.trans h2.1, fun i h1 h3 => by
  have hi : i < a.length := by rw [← h.len]; exact h1
  obtain ⟨e1, e2⟩ := h.same i hi h1
  rw [e1, e2]
  exact h2.2 i hi h3⟩

set_option maxHeartbeats 4000000 in
set_option maxRecDepth 100000 in
theorem deltasLaw_any (F1 F1' F2 F2' : Nat → Prop) (va vb : Value) (a b : List DE) (w : World) (ha : RD w F1 F1' va a) (hb : RD w F2 F2' vb b) (hs : SameDs a b) :
    Calls Tryz.prog 14 #[va, vb] w fun e w' => e = .returned (.bool true) ∧ Below w.heap.size w w' := by
  obtain ⟨_, A, c, rfl, hc, hm, -⟩ := ha.sl
  obtain ⟨_, B, d, rfl, hc', hm', -⟩ := hb.sl
  unfold maxLen at hm hm'
  have HA := Lib.hid ha
  have HB := Lib.hid hb
  have HS := Lib.hid hs
  have hlen : b.length = a.length := hs.1.symm
  obtain ⟨n, hln⟩ : ∃ n, a.length = n := ⟨_, rfl⟩
  rw [hlen, hln] at hc'
  rw [hln] at hc
  rw [hlen, hln]
  have HN := Lib.hid hln
  have HN2 := Lib.hid (hlen.trans hln)
  clear hs ha hb hlen hln
  go_enter Tryz.func14, Tryz.ntmps14
  go_wp2_with fail
  go_loopw [4, 5, 13] (fun _ _ i wr => ∃ k : Nat, k ≤ n ∧ i = .int .i64 k ∧ Below w.heap.size w wr) (fun _ _ i _ => n - (intOf i).toNat)
  case atStart => exact ⟨0, Nat.zero_le _, rfl, Below.refl _ _⟩
  case round =>
    obtain ⟨k, hk, rfl, hbel⟩ := hrel
    have HBL := Lib.hid hbel
    by_cases hlt : k < n
    · have hka : k < a.length := by rw [HN.out]; exact hlt
      have hkb : k < b.length := by rw [HN2.out]; exact hlt
      obtain ⟨b1, o1, ca, A1, m1, c1, row1, n1, hv1, -, -, hb1, he1, hg1, x1, y1⟩ := (HA.out.later hbel).at_ (i := k) hka
      obtain ⟨b2, o2, cb, A2, m2, c2, row2, n2, hv2, -, -, hb2, he2, hg2, x2, y2⟩ := (HB.out.later hbel).at_ (i := k) hkb
      injection hv1 with e1 e0 e2
      subst e1
      subst e2
      injection hv2 with e1 e3 e2
      subst e1
      subst e2
      obtain ⟨hz, hnn⟩ := HS.out.2 k hka hkb
      rw [← dat_eq hka, ← dat_eq hkb, he1, he2] at hz hnn
      simp only at hz hnn
      have hr1 : RI wr F1' (.slice A1 m1 c1) row1 := hg1.row
      have hr2 : RI wr F2' (.slice A2 m2 c2) row2 := hg2.row
      have hml : m1 = m2 := by
        obtain ⟨_, _, _, _, e, _⟩ := hr1.shape
        obtain ⟨_, _, _, _, e', _⟩ := hr2.shape
        injection e with _ e _
        injection e' with _ e' _
        rw [e, e']
        exact cmpL_len _ _ hz
      subst hml
      subst hnn
      have HCALL := Lib.hid (fun W (hW : Below wr.heap.size wr W) => compareRowsR_any F1' F2' _ _ row1 row2 W (hr1.later hW) (hr2.later hW))
      rw [hz] at HCALL
      clear e0 e3 he1 he2 hg1 hg2 hr1 hr2 hbel hz
      go_wp2_with fail
      have q1 := fun w' (h : Tab.Ext (fun _ => False) wr.drew w') => (h.cell (p := ⟨b1, o1 + k * 2, none⟩) hb1 id).trans x1
      have q2 := fun w' (h : Tab.Ext (fun _ => False) wr.drew w') => (h.cell (p := ⟨b2, o2 + k * 2, none⟩) hb2 id).trans x2
      have q3 := fun w' (h : Tab.Ext (fun _ => False) wr.drew w') => (h.cell (p := ⟨b1, o1 + k * 2 + 1, none⟩) hb1 id).trans y1
      have q4 := fun w' (h : Tab.Ext (fun _ => False) wr.drew w') => (h.cell (p := ⟨b2, o2 + k * 2 + 1, none⟩) hb2 id).trans y2
      have hbw := Lib.hid (fun w' (h : Tab.Ext (fun _ => False) wr.drew w') => (show Below wr.heap.size wr w' from (Below.refl _ _).drew.trans h.below))
      clear x1 x2 y1 y2
      refine Tab.wp_region_tab (Tab.Ext fun _ => False) (by kernel_rfl) (by kernel_rfl) (fun _ => Tab.Ext.refl _ _) (fun _ _ _ h k => h.trans k) ?_
      iterate 37 (first | (refine Tab.tab_moveE _ rfl (Tab.silent_true _) (.inl rfl) rfl rfl (fun _ => Tab.Ext.refl _ _) ?_; apply Exists.intro; refine And.intro ?_ ?_; focus (simp [Tab.Env.ev, Tab.Env.get]; rfl)) | (refine Tab.tab_moveE _ rfl (Tab.silent_true _) (.inr rfl) rfl rfl (fun _ => Tab.Ext.refl _ _) ?_; apply Exists.intro; refine And.intro ?_ ?_; focus (simp [Tab.Env.ev, Tab.Env.get]; rfl)) | refine Tab.tab_skip rfl (Tab.silent_true _) rfl ?_ | (refine Tab.tab_repE rfl (Tab.silent_true _) rfl (fun _ _ h => by cases h) rfl (fun _ => Tab.Ext.refl _ _) ?_; apply Exists.intro; refine And.intro (fun l w' _ _ hw => ?_) ?_; focus (go_simp; rfl)) | (refine Tab.tab_repE rfl (Tab.silent_true _) rfl (fun _ _ h => by cases h) rfl (fun _ => Tab.Ext.refl _ _) ?_; apply Exists.intro; refine And.intro (fun l w' hs hc hw => ?_) ?_; focus (go_simp; rfl)))
      refine Tab.tab_call_is (.int .i64 0) rfl rfl rfl cfCompareRowsR rfl (fun l_ w' _ _ _ hw => ?_) ?_
      · show Calls _ _ #[.slice A1 m1 c1, .slice A2 m1 c2] w' _
        refine (HCALL.out w' (hbw.out _ hw)).mono ?_
        rintro e_ w_ ⟨rfl, hb_⟩
        exact ⟨rfl, Tab.Ext.of_below hb_, trivial⟩
      iterate 2 (first | (refine Tab.tab_moveE _ rfl (Tab.silent_true _) (.inl rfl) rfl rfl (fun _ => Tab.Ext.refl _ _) ?_; apply Exists.intro; refine And.intro ?_ ?_; focus (simp [Tab.Env.ev, Tab.Env.get]; rfl)) | (refine Tab.tab_moveE _ rfl (Tab.silent_true _) (.inr rfl) rfl rfl (fun _ => Tab.Ext.refl _ _) ?_; apply Exists.intro; refine And.intro ?_ ?_; focus (simp [Tab.Env.ev, Tab.Env.get]; rfl)) | refine Tab.tab_skip rfl (Tab.silent_true _) rfl ?_ | (refine Tab.tab_repE rfl (Tab.silent_true _) rfl (fun _ _ h => by cases h) rfl (fun _ => Tab.Ext.refl _ _) ?_; apply Exists.intro; refine And.intro (fun l w' _ _ hw => ?_) ?_; focus (go_simp; rfl)) | (refine Tab.tab_repE rfl (Tab.silent_true _) rfl (fun _ _ h => by cases h) rfl (fun _ => Tab.Ext.refl _ _) ?_; apply Exists.intro; refine And.intro (fun l w' hs hc hw => ?_) ?_; focus (go_simp; rfl)))
      intro a_ w_ hw_ hsat_
      refine Tab.fin_of_sat rfl ?_ hsat_
      simp only [Tab.fin, Act.put, List.setIfInBounds_toArray, List.set_cons_succ, List.set_cons_zero]
      have HB2 := Lib.hid (HBL.out.trans ((hbw.out _ hw_).mono HBL.out.size))
      clear hsat_ hw_ q1 q2 q3 q4 hbw HCALL
      go_wp2_with fail
      go_roundw
      case rel => exact ⟨k + 1, hlt, by go_num, HB2.out⟩
      case measure => simp [intOf] <;> omega
    · obtain rfl : k = n := by omega
      go_wp2_with fail
      go_ret
      exact ⟨rfl, HBL.out⟩
end Go.Proofs.YthejmnmkbldacaaGreatDoor

namespace Go.Proofs.YthejmnmkbldacaaGreatDoor
open Go.RowKit

theorem mut_base {w : World} {base g s cap ns : Nat} {D : GateD} {vw vl : Value} {ws ls : List RE} (h : GateS w base g s cap ns D vw ws vl ls) (b : Nat) (hm : Mut g s vw (.slice none 0 0) b) : base ≤ b ∧ b < w.heap.size := by
  rcases hm with e | e | e | e
  · rw [e]; exact ⟨h.gm.bg, h.gm.blk.lt⟩
  · rw [e]; exact h.gm.bs
  · exact h.wown.lt b e
  · simp [Value.ownBlock] at e
theorem below_ext {w w' : World} (h : Tab.Ext (fun b => w.heap.size ≤ b) w w') : Below w.heap.size w w' := ⟨h.os, h.tape, h.output, h.size, fun b hb => h.block b hb (by omega)⟩
theorem RI.strless {w : World} {F : Nat → Prop} {v : Value} {l : List VD} (h : RI w F v l) (S : Nat → Prop) (hS : ∀ b, S b → ∀ o s, w.cell? ⟨b, o, none⟩ ≠ some (.string s)) : RI w (fun b => F b ∧ ¬ S b) v l := by
  induction h with
  | mk A c l iA iC hc hm hs hw hr ih =>
    exact RI.mk A c l iA iC hc hm (fun h0 => by
      obtain ⟨b, off, e, hF, hlt, hcells⟩ := hs h0
      exact ⟨b, off, e, ⟨hF, fun hSb => hS b hSb _ _ (hcells 0 h0).2.2.2.1⟩, hlt, hcells⟩) hw ih
theorem RGateM.base {w : World} {b b' g : Nat} (hb : b ≤ b') {D : GateD} {mv iv vw : Value} (h : RGateM w b' g D mv iv vw) : RGateM w b g D mv iv vw := ⟨h.blk, own_base hb h.mown, own_base hb h.iown, Nat.le_trans hb h.bg, h.ok⟩

/-- both gates, the program's with the rows ws, the reference's with the rows ws' -/
structure GG (w : World) (base g s cap ns : Nat) (D : GateD) (vw : Value) (ws : List RE) (g' : Nat) (D' : GateD) (mv iv vw' : Value) (ws' : List RE) : Prop where
  x : GateS w base g s cap ns D vw ws (.slice none 0 0) []
  y : RGateS w base g' D' mv iv vw' ws' (.slice none 0 0) []
  sepW : ∀ b, vw.ownBlock = some b → vw'.ownBlock ≠ some b
  sepR : ∀ e, e ∈ ws → RI w (fun b => base ≤ b ∧ ¬ Mut g s vw (.slice none 0 0) b ∧ ¬ RMut g' mv iv vw' b) e.rv e.row
section
variable {w w' : World} {base g s cap ns g' : Nat} {D D' D2 : GateD} {vw vw' vw2 mv iv : Value} {ws ws' ws2 : List RE}
theorem GG.disj (h : GG w base g s cap ns D vw ws g' D' mv iv vw' ws') (b : Nat) (hy : RMut g' mv iv vw' b) : ¬ Mut g s vw (.slice none 0 0) b := by
  intro hx
  have hsB : ∀ b', s = b' → Value.ownBlock (.slice (some ⟨s, 0, none⟩) ns cap) = some b' := fun b' e => by rw [← e]; rfl
  rcases hy with e | e | e | e
  · subst e
    rcases hx with e | e | e | e
    · exact Blk.ne_ h.x.gm.blk h.y.gm.blk (by decide) e.symm
    · exact own_blk_ne h.x.gm.src h.y.gm.blk (by decide) (hsB _ e.symm)
    · exact own_blk_ne h.x.wown h.y.gm.blk (by decide) e
    · simp [Value.ownBlock] at e
  · rcases hx with e2 | e2 | e2 | e2
    · subst e2; exact own_blk_ne h.y.gm.mown h.x.gm.blk (by decide) e
    · exact own_own_ne h.x.gm.src h.y.gm.mown (by decide) b (hsB _ e2.symm) e
    · exact own_own_ne h.x.wown h.y.gm.mown (by decide) b e2 e
    · simp [Value.ownBlock] at e2
  · rcases hx with e2 | e2 | e2 | e2
    · subst e2; exact own_blk_ne h.y.gm.iown h.x.gm.blk (by decide) e
    · exact own_own_ne h.x.gm.src h.y.gm.iown (by decide) b (hsB _ e2.symm) e
    · exact own_own_ne h.x.wown h.y.gm.iown (by decide) b e2 e
    · simp [Value.ownBlock] at e2
  · rcases hx with e2 | e2 | e2 | e2
    · subst e2; exact own_blk_ne h.y.wown h.x.gm.blk (by decide) e
    · exact own_own_ne h.x.gm.src h.y.wown (by decide) b (hsB _ e2.symm) e
    · exact h.sepW b e2 e
    · simp [Value.ownBlock] at e2
theorem GG.later (h : GG w base g s cap ns D vw ws g' D' mv iv vw' ws') (hb : Below w.heap.size w w') : GG w' base g s cap ns D vw ws g' D' mv iv vw' ws' :=
  ⟨h.x.later hb, h.y.later hb, h.sepW, fun e he => (h.sepR e he).later hb⟩
/-- the program's gate does something -/
theorem GG.stepX (h : GG w base g s cap ns D vw ws g' D' mv iv vw' ws') (hx : Tab.Ext (fun b => Mut g s vw (.slice none 0 0) b) w w') (hS : GateS w' base g s cap ns D2 vw2 ws2 (.slice none 0 0) [])
    (hnw : ∀ b, vw2.ownBlock = some b → vw.ownBlock = some b ∨ w.heap.size ≤ b) (hrows : ∀ e, e ∈ ws2 → e ∈ ws ∨ RI w' (fun b => w.heap.size ≤ b ∧ ¬ Mut g s vw2 (.slice none 0 0) b) e.rv e.row) (hbase : base ≤ w.heap.size) :
    GG w' base g s cap ns D2 vw2 ws2 g' D' mv iv vw' ws' := by
  have hk : ∀ b, RMut g' mv iv vw' b → w'.heap[b]? = w.heap[b]? := fun b hm => hx.block b (h.y.mut b hm).2 (h.disj b hm)
  refine ⟨hS, ⟨h.y.gm.keep (hk g' (.inl rfl)) (fun b e => hk b (.inr (.inl e))) (fun b e => hk b (.inr (.inr (.inl e)))), own_keep h.y.wown (fun b e => hk b (.inr (.inr (.inr e)))), World.ownsRow_nil _ _ _ _, h.y.sep, rows_keep h.y.rows hx.size (fun b h1 h2 => hx.block b h2 (fun hm => by have := (mut_base h.x b hm).1; omega)), h.y.mom⟩, fun b e e' => ?_, fun e he => ?_⟩
  · rcases hnw b e with e1 | e1
    · exact h.sepW b e1 e'
    · have := (h.y.wown.lt b e').2; omega
  · rcases hrows e he with he | hr
    · refine (h.sepR e he).keep hx.size fun b hb hlt => ⟨hx.block b hlt hb.2.1, hb.1, fun hm => hb.2.1 ?_, hb.2.2⟩
      rcases hm with e | e | e | e
      · exact .inl e
      · exact .inr (.inl e)
      · rcases hnw b e with e1 | e1
        · exact .inr (.inr (.inl e1))
        · omega
      · simp [Value.ownBlock] at e
    · exact hr.mono fun b hb _ => ⟨Nat.le_trans hbase hb.1, hb.2, fun hm => by have := (h.y.mut b hm).2; have := hb.1; omega⟩
/-- the reference's gate does something -/
theorem GG.stepY (h : GG w base g s cap ns D vw ws g' D' mv iv vw' ws') (hx : Tab.Ext (fun b => RMut g' mv iv vw' b) w w') (hS : RGateS w' base g' D2 mv iv vw2 ws2 (.slice none 0 0) [])
    (hnw : ∀ b, vw2.ownBlock = some b → vw'.ownBlock = some b ∨ w.heap.size ≤ b) : GG w' base g s cap ns D vw ws g' D2 mv iv vw2 ws2 := by
  have hk : ∀ b, Mut g s vw (.slice none 0 0) b → w'.heap[b]? = w.heap[b]? := fun b hm => hx.block b (mut_base h.x b hm).2 (fun hy => h.disj b hy hm)
  have hrow : ∀ e, e ∈ ws → RI w' (fun b => base ≤ b ∧ ¬ Mut g s vw (.slice none 0 0) b ∧ ¬ RMut g' mv iv vw2 b) e.rv e.row := fun e he => (h.sepR e he).keep hx.size fun b hb hlt => ⟨hx.block b hlt hb.2.2, hb.1, hb.2.1, fun hm => hb.2.2 (by
    rcases hm with e | e | e | e
    · exact .inl e
    · exact .inr (.inl e)
    · exact .inr (.inr (.inl e))
    · rcases hnw b e with e1 | e1
      · exact .inr (.inr (.inr e1))
      · omega)⟩
  refine ⟨⟨h.x.gm.keep (hk g (.inl rfl)) (hk s (.inr (.inl rfl))), own_keep h.x.wown (fun b e => hk b (.inr (.inr (.inl e)))), World.ownsRow_nil _ _ _ _, h.x.sep, fun e he => ?_, h.x.mom⟩, hS, fun b e e' => ?_, hrow⟩
  · rcases he with he | he
    · exact (hrow e he).mono fun b hb _ => ⟨hb.1, hb.2.1⟩
    · exact absurd he (by simp)
  · rcases hnw b e' with e1 | e1
    · exact h.sepW b e e1
    · have := (h.x.wown.lt b e).2; omega
theorem GG.low (h : GG w base g s cap ns D vw ws g' D' mv iv vw' ws') (b : Nat) (hm : Mut g s vw (.slice none 0 0) b ∨ RMut g' mv iv vw' b) : base ≤ b := hm.elim (fun h1 => (mut_base h.x b h1).1) fun h1 => (h.y.mut b h1).1
end

/-- what is released depends on the rows alone -/
theorem relRows {D : GateD} : ∀ {a b : List RE}, rowsD a = rowsD b → rowsD (relOut D a) = rowsD (relOut D b) ∧ rowsD (relKeep D a) = rowsD (relKeep D b)
  | [], [], _ => ⟨rfl, rfl⟩
  | [], _ :: _, h => by simp [rowsD] at h
  | _ :: _, [], h => by simp [rowsD] at h
  | x :: a, y :: b, h => by
    simp only [rowsD, List.map_cons, List.cons.injEq] at h
    obtain ⟨ih1, ih2⟩ := relRows (D := D) (a := a) (b := b) h.2
    have e : relP D x = relP D y := by unfold relP; rw [h.1]
    simp only [relOut, relKeep, rowsD, List.filter_cons] at ih1 ih2 ⊢
    rw [e]
    cases relP D y <;> simp [ih1, ih2, h.1]
theorem tot_rows (r : DE) : ∀ {a b : List RE}, rowsD a = rowsD b → tot cmpD DE.n r (onesOf a) = tot cmpD DE.n r (onesOf b)
  | [], [], _ => rfl
  | [], _ :: _, h => by simp [rowsD] at h
  | _ :: _, [], h => by simp [rowsD] at h
  | x :: a, y :: b, h => by
    simp only [rowsD, List.map_cons, List.cons.injEq] at h
    have ih := tot_rows r (a := a) (b := b) h.2
    have e1 : onesOf (x :: a) = ⟨x.rv, x.row, 1⟩ :: onesOf a := rfl
    have e2 : onesOf (y :: b) = ⟨y.rv, y.row, 1⟩ :: onesOf b := rfl
    rw [e1, e2]
    simp only [tot]
    rw [ih]
    have e3 : cmpD ⟨x.rv, x.row, 1⟩ r = cmpD ⟨y.rv, y.row, 1⟩ r := by unfold cmpD; rw [h.1]
    rw [e3]
/-- what both gates release says the same -/
theorem rel_same {D : GateD} {ws ws' : List RE} {out es : List DE} (hr : rowsD ws = rowsD ws') (hn : ws'.length < 4194304) (hc : Canon cmpD DE.n setN (onesOf (relOut D ws)) out) (hd : DiffI cmpD setN (onesOf (relOut D ws')) es) : SameDs out (refOut cmpD DE.n setN 1 (onesOf (relOut D ws')) es) := by
  refine SameDs.of_same (same_of_tot cmpD_ord hc.strict (refOut_strict cntD 1 hd) hc.nz (fun _ hx => refOut_nz hx) fun x => ?_)
  have hlen : (relOut D ws').length < 4194304 := Nat.lt_of_le_of_lt (List.length_filter_le _ _) hn
  rw [hc.tot, refOut_tot cntD hd (fun e _ => by
    have h1 := tot_ones_bound e (relOut D ws')
    unfold InT
    omega)]
  exact tot_rows x (relRows hr).1

/-- what Offer answers and leaves -/
def offRes (D : GateD) (source : Int) (l : List (List VD)) : Int × List (List VD) × GateD × List (List VD) :=
  if 0 ≤ source ∧ source ≤ (D.srcs.length : Int) - 1 then
    (if rowsErr D.column l = 0 then (0, (offAll source.toNat (offBegin D source.toNat, [], []) l).2.1, (offAll source.toNat (offBegin D source.toNat, [], []) l).1, (offAll source.toNat (offBegin D source.toNat, [], []) l).2.2)
     else (rowsErr D.column l, [], D, [])) else (3, [], D, [])
theorem offer_sum {base g s cap ns : Nat} {D : GateD} {vw : Value} {ws : List RE} {source : Int} {l : List (List VD)} {w w' : World} {e : Ending} (h : OffPost base g s cap ns D vw ws source l w e w') (hl : D.srcs.length = ns) :
    Tab.Ext (fun b => Mut g s vw (.slice none 0 0) b) w w' ∧ ∃ va la vw2 wsn, e = .returned (.tuple #[va, .int .i64 (offRes D source l).1]) ∧ RR w' (fun b => w.heap.size ≤ b) (fun b => w.heap.size ≤ b) va la ∧ rowsD la = (offRes D source l).2.1 ∧
      GateS w' base g s cap ns (offRes D source l).2.2.1 vw2 (ws ++ wsn) (.slice none 0 0) [] ∧ rowsD wsn = (offRes D source l).2.2.2 ∧ (∀ b, vw2.ownBlock = some b → vw.ownBlock = some b ∨ w.heap.size ≤ b) ∧ NR w.heap.size w' g s vw2 (.slice none 0 0) wsn [] := by
  subst hl
  have nr : NR w.heap.size w' g s vw (.slice none 0 0) [] [] := fun e he => by rcases he with he | he <;> exact absurd he (by simp)
  refine ⟨h.1, ?_⟩
  rcases h.2 with ⟨h1, rfl, h2⟩ | ⟨h1, h2, rfl, h3⟩ | ⟨h1, h2, vl, ls, vw', ws', rfl, h3, h4, h5, h6, h7, h8⟩
  · have e : offRes D source l = (3, [], D, []) := if_neg h1
    rw [e]
    exact ⟨_, [], vw, [], rfl, RR.nil _ _ _, rfl, by rw [List.append_nil]; exact h2, rfl, fun b e => .inl e, nr⟩
  · have e : offRes D source l = (rowsErr D.column l, [], D, []) := (if_pos h1).trans (if_neg h2)
    rw [e]
    exact ⟨_, [], vw, [], rfl, RR.nil _ _ _, rfl, by rw [List.append_nil]; exact h3, rfl, fun b e => .inl e, nr⟩
  · have e : offRes D source l = (0, _, _, _) := (if_pos h1).trans (if_pos h2)
    rw [e]
    exact ⟨vl, ls, vw', ws', rfl, h3, h4, h5, h6, h7, h8⟩
theorem offerR_sum {base g : Nat} {D : GateD} {mv iv vw : Value} {ws : List RE} {source : Int} {l : List (List VD)} {w w' : World} {e : Ending} (h : ROffPost base g D mv iv vw ws source l w e w') :
    Tab.Ext (fun b => RMut g mv iv vw b) w w' ∧ ∃ va la vw2 wsn, e = .returned (.tuple #[va, .int .i64 (offRes D source l).1]) ∧ RR w' (fun b => w.heap.size ≤ b) (fun b => b < base) va la ∧ rowsD la = (offRes D source l).2.1 ∧
      RGateS w' base g (offRes D source l).2.2.1 mv iv vw2 (ws ++ wsn) (.slice none 0 0) [] ∧ rowsD wsn = (offRes D source l).2.2.2 ∧ (∀ b, vw2.ownBlock = some b → vw.ownBlock = some b ∨ w.heap.size ≤ b) := by
  refine ⟨h.1, ?_⟩
  rcases h.2 with ⟨h1, rfl, h2⟩ | ⟨h1, h2, rfl, h3⟩ | ⟨h1, h2, vl, ls, vw', ws', rfl, h3, h4, h5, h6, h7⟩
  · have e : offRes D source l = (3, [], D, []) := if_neg h1
    rw [e]
    exact ⟨_, [], vw, [], rfl, RR.nil _ _ _, rfl, by rw [List.append_nil]; exact h2, rfl, fun b e => .inl e⟩
  · have e : offRes D source l = (rowsErr D.column l, [], D, []) := (if_pos h1).trans (if_neg h2)
    rw [e]
    exact ⟨_, [], vw, [], rfl, RR.nil _ _ _, rfl, by rw [List.append_nil]; exact h3, rfl, fun b e => .inl e⟩
  · have e : offRes D source l = (0, _, _, _) := (if_pos h1).trans (if_pos h2)
    rw [e]
    exact ⟨vl, ls, vw', ws', rfl, h3, h4, h5, h6, h7⟩
theorem offRes_len (D : GateD) (source : Int) (l : List (List VD)) : (offRes D source l).2.2.2.length ≤ l.length := by
  unfold offRes
  split
  · split
    · have := offAll_len source.toNat l (offBegin D source.toNat, [], [])
      simp only [List.length_nil, Nat.zero_add] at this
      simp only
      omega
    · exact Nat.zero_le _
  · exact Nat.zero_le _
/-- what Idle answers and leaves -/
def idleVal (D : GateD) (source : Int) : Int := if 0 ≤ source ∧ source ≤ (D.srcs.length : Int) - 1 then 0 else 3
def idleRes (D : GateD) (source : Int) : GateD := if 0 ≤ source ∧ source ≤ (D.srcs.length : Int) - 1 then idleD D source.toNat else D
theorem idleRes_column (D : GateD) (source : Int) : (idleRes D source).column = D.column := by
  unfold idleRes idleD
  split
  · split
    · rw [advD_column]; rfl
    · rfl
  · rfl
theorem idle_sum {base g s cap ns : Nat} {D : GateD} {vw : Value} {source : Int} {w w' : World} {e : Ending} (h : IdlePost base g s cap ns D vw source w e w') (hl : D.srcs.length = ns) :
    e = .returned (.int .i64 (idleVal D source)) ∧ Tab.Ext (fun b => b = g ∨ b = s) w w' ∧ GateM w' base g s cap ns (idleRes D source) vw := by
  subst hl
  rcases h.2 with ⟨h1, rfl, h2⟩ | ⟨h1, rfl, h2⟩
  · unfold idleVal idleRes; rw [if_neg h1, if_neg h1]; exact ⟨rfl, h.1, h2⟩
  · unfold idleVal idleRes; rw [if_pos h1, if_pos h1]; exact ⟨rfl, h.1, h2⟩
theorem idleR_sum {base g : Nat} {D : GateD} {mv iv vw : Value} {source : Int} {w w' : World} {e : Ending} (h : IdleRPost base g D mv iv vw source w e w') :
    e = .returned (.int .i64 (idleVal D source)) ∧ Tab.Ext (fun b => b = g ∨ mv.ownBlock = some b ∨ iv.ownBlock = some b) w w' ∧ RGateM w' base g (idleRes D source) mv iv vw := by
  rcases h.2 with ⟨h1, rfl, h2⟩ | ⟨h1, rfl, h2⟩
  · unfold idleVal idleRes; rw [if_neg h1, if_neg h1]; exact ⟨rfl, h.1, h2⟩
  · unfold idleVal idleRes; rw [if_pos h1, if_pos h1]; exact ⟨rfl, h.1, h2⟩
section
variable {w w' : World} {base g s cap ns g' : Nat} {D D' D2 : GateD} {vw vw' mv iv : Value} {ws ws' : List RE}
theorem GG.idleX (h : GG w base g s cap ns D vw ws g' D' mv iv vw' ws') (hm : GateM w' base g s cap ns D2 vw) (hc : D2.column = D.column) (hx : Tab.Ext (fun b => b = g ∨ b = s) w w') (hbase : base ≤ w.heap.size) : GG w' base g s cap ns D2 vw ws g' D' mv iv vw' ws' :=
  h.stepX (hx.mono fun b _ hb => hb.elim .inl fun e => .inr (.inl e)) (h.x.gate hm hc hx) (fun _ e => .inl e) (fun _ he => .inl he) hbase
theorem GG.idleY (h : GG w base g s cap ns D vw ws g' D' mv iv vw' ws') (hm : RGateM w' base g' D2 mv iv vw') (hc : D2.column = D'.column) (hx : Tab.Ext (fun b => b = g' ∨ mv.ownBlock = some b ∨ iv.ownBlock = some b) w w') : GG w' base g s cap ns D vw ws g' D2 mv iv vw' ws' :=
  h.stepY (hx.mono fun b _ hb => hb.elim .inl fun e => e.elim (fun e => .inr (.inl e)) fun e => .inr (.inr (.inl e))) (h.y.gate hm hc hx) (fun _ e => .inl e)
end
end Go.Proofs.YthejmnmkbldacaaGreatDoor
