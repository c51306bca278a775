/-
  What is proved: the reference's different rows of differences, in increasing order. Conditions: fewer than 2^30 differences.
-/
import Derived.Test.YthejmnmkbldacaaGreatDoorAp18
import Derived.Test.YthejmnmkbldacaaGreatDoorAp21
import Derived.Test.YthejmnmkbldacaaGreatDoorAp22
set_option linter.all false
namespace Go.Proofs.YthejmnmkbldacaaGreatDoor
open Go.RowKit
attribute [local go_sem] Tab.Env.ev Tab.Env.get

/-- a row of rows of the call's own, whose rows lie elsewhere in F -/
structure OwnRs (w : World) (base : Nat) (F : Nat → Prop) (v : Value) (es : List RE) : Prop where
  own : w.ownsRow base 31 1 v es.length (es.map RE.rv)
  good : ∀ e, e ∈ es → RI w (fun b => F b ∧ v.ownBlock ≠ some b) e.rv e.row
theorem OwnRs.nil (w : World) (base : Nat) (F : Nat → Prop) : OwnRs w base F (.slice none 0 0) [] := ⟨World.ownsRow_nil _ _ _ _, fun _ h => by cases h⟩
theorem OwnRs.rr {w : World} {base : Nat} {F : Nat → Prop} {v : Value} {es : List RE} (h : OwnRs w base F v es) : RR w (fun b => base ≤ b) F v es :=
  ⟨by have := SL.of_own h.own; exact this, fun d hd => (h.good d hd).mono fun b hb _ => hb.1⟩
theorem OwnRs.later {w w' : World} {base : Nat} {F : Nat → Prop} {v : Value} {es : List RE} (h : OwnRs w base F v es) (hb : Below w.heap.size w w') : OwnRs w' base F v es :=
  ⟨own_later h.own hb, fun e he => (h.good e he).later hb⟩
/-- a row with its number left out -/
def REd (e : RE) : DE := ⟨e.rv, e.row, 0⟩

/-- cells set one behind the other, on a list -/
def setL : List Value → Nat → List Value → List Value
  | xs, _, [] => xs
  | xs, o, u :: us => setL (xs.set o u) (o + 1) us
theorem setL_eq : ∀ (us xs : List Value) (o : Nat), o + us.length ≤ xs.length → setL xs o us = xs.take o ++ us ++ xs.drop (o + us.length)
  | [], xs, o, _ => by simp [setL]
  | u :: us, xs, o, h => by
    rw [List.length_cons] at h
    rw [setL, setL_eq us (xs.set o u) (o + 1) (by rw [List.length_set]; omega)]
    have e1 : (xs.set o u).take (o + 1) = xs.take o ++ [u] := by
      rw [List.take_succ_eq_append_getElem (by rw [List.length_set]; omega), List.take_set_of_le (Nat.le_refl o), List.getElem_set_self]
    have e2 : (xs.set o u).drop (o + 1 + us.length) = xs.drop (o + (us.length + 1)) := by
      rw [List.drop_set_of_lt (by omega)]
      congr 1
      omega
    rw [e1, e2, List.length_cons]
    simp
theorem own_setL {base size n g cap : Nat} {e : TypeId} : ∀ (us : List Value) (o : Nat) (w : World) (xs : List Value), w.ownsRow base e size (.slice (some ⟨g, 0, none⟩) n cap) n xs →
    (w.setCells g o us).ownsRow base e size (.slice (some ⟨g, 0, none⟩) n cap) n (setL xs o us) ∧ Tab.Ext (fun b => b = g) w (w.setCells g o us)
  | [], _, _, xs, h => ⟨h, Tab.Ext.refl _ _⟩
  | u :: us, o, w, xs, h => by
    obtain ⟨h1, h2⟩ := h.stored o u
    obtain ⟨h3, h5⟩ := own_setL us (o + 1) _ _ h1
    exact ⟨h3, ((Tab.Ext.refl (fun b => b = g) w).setCell (p := ⟨g, o, none⟩) (.inl rfl) u).trans h5⟩

theorem cfCompareRowsR : ∀ (args : Array Value) (w : World), (callFunc 64 args).run Tryz.prog w = .ok (.enter 64 args) w := fun _ _ => by simp [go_sem]
def DiffPost (F' : Nat → Prop) (l : List DE) (w : World) (e : Ending) (w' : World) : Prop :=
  ∃ v' es, e = .returned v' ∧ OwnRs w' w.heap.size (fun b => F' b ∧ b < w.heap.size) v' es ∧ DiffI cmpD setN l (es.map REd) ∧ es.length ≤ l.length ∧ Below w.heap.size w w'

set_option maxHeartbeats 2000000 in
theorem different_any (F F' : Nat → Prop) (v : Value) (l : List DE) (w : World) (h : RD w F F' v l) (hn : l.length < 1073741824) :
    Calls Tryz.prog 59 #[v] w (DiffPost F' l w) := by
  obtain ⟨A, c, rfl, hc, hm⟩ := rd_shape h
  have HR := Lib.hid h
  clear h
  unfold maxLen at hm
  obtain ⟨n, hln⟩ : ∃ n, l.length = n := ⟨_, rfl⟩
  rw [hln] at hc hn ⊢
  have HN := Lib.hid hln
  clear hln
  go_enter Tryz.func59, Tryz.ntmps59
  go_wp2_with fail
  go_loopw [3, 5, 6, 9] (fun s _ _ i wr => ∃ (k : Nat) (v : Value) (es : List RE), k ≤ n ∧ v = s ∧ i = .int .i64 k ∧ OwnRs wr w.heap.size (fun b => F' b ∧ b < w.heap.size) v es ∧ Hid (DiffI cmpD setN (l.take k) (es.map REd) ∧ es.length ≤ k) ∧ Below w.heap.size w wr) (fun _ _ _ i _ => n - (intOf i).toNat)
  case atStart => exact ⟨0, _, [], Nat.zero_le _, rfl, rfl, OwnRs.nil _ _ _, Lib.hid ⟨DiffI.nil, Nat.le_refl _⟩, Below.refl _ _⟩
  case round =>
    obtain ⟨k, v, es, hk, rfl, rfl, ho, HI, hbel⟩ := hrel
    have HB := Lib.hid hbel
    have HO := Lib.hid ho
    obtain ⟨m, hmm⟩ : ∃ m, es.length = m := ⟨_, rfl⟩
    have hmk : m ≤ k := hmm ▸ HI.out.2
    have HM := Lib.hid hmm
    obtain ⟨_, Ae, ce, ee, hce1, hce2, hcells⟩ := SL.of_own ho.own
    subst ee
    have HCE := Lib.hid hcells
    rw [hmm] at hce1 HO ⊢
    unfold maxLen at hce2
    clear ho hmm hcells
    by_cases hlt : k < n
    · have hkl : k < l.length := by rw [HN.out]; exact hlt
      obtain ⟨b, off, c', A1, m1, c1, row, nk, hv, -, -, hb, he, hg, x0, x1⟩ := (HR.out.later hbel).at_ (i := k) hkl
      injection hv with e1 e0 e2
      subst e1
      subst e2
      have HT := Lib.hid (show l.take (k + 1) = l.take k ++ [⟨.slice A1 m1 c1, row, nk⟩] by rw [take_snocD hkl, he])
      have HROW := Lib.hid (show RI wr F' (.slice A1 m1 c1) row from hg.row)
      have HG0 := Lib.hid (show (DE.mk (.slice A1 m1 c1) row nk).good w F' by have := HR.out.good _ (dat_mem hkl); rwa [he] at this)
      have hz0 := hbel.size
      have hbel0 := hbel
      clear e0 he hg hbel
      go_wp2_with fail
      have hbn := below_new wr (.cells #[.slice A1 m1 c1, .int .i64 nk] 86)
      have HBN := Lib.hid hbn
      have BO := Lib.hid (Blk.new wr 86 [.slice A1 m1 c1, .int .i64 nk])
      have HRW := Lib.hid (HROW.out.later hbn)
      generalize hW : wr.alloc (.cells #[.slice A1 m1 c1, .int .i64 nk] 86) = W at *
      have hzW : wr.heap.size < W.heap.size := by have := BO.out.lt; exact this
      clear hW hbn
      have HO2 := Lib.hid (HO.out.later HBN.out)
      have HBW := Lib.hid (hbel0.trans (HBN.out.mono hz0))
      clear HBN
      generalize hzz : wr.heap.size = z at *
      clear hzz
      go_loopw [6] (fun kv wi => ∃ q : Nat, q ≤ m ∧ kv = .int .i64 q ∧ Hid (∀ j, j < q → cmpL (dat es j).row row < 0) ∧ Below W.heap.size W wi) (fun kv _ => m - (intOf kv).toNat)
      case atStart => exact ⟨0, Nat.zero_le _, rfl, Lib.hid fun j h => absurd h (Nat.not_lt_zero j), Below.refl _ _⟩
      case round =>
        obtain ⟨q, hq, rfl, HQ, hbi⟩ := hrel
        have HOI := Lib.hid (HO2.out.later hbi)
        have D0 := BO.out.below hbi BO.out.lt
        by_cases hqm : q < m
        · have hqe : q < es.length := by rw [HM.out]; exact hqm
          obtain ⟨be, oe, ce', Ae', me', ce1', rowe, hve, -, -, hbe, -, hee, hre, xe⟩ := HOI.out.rr.at_ (i := q) hqe
          injection hve with e1 e0 e2
          subst e1
          subst e2
          have HCALL := Lib.hid (fun W' (hW : Below wr.heap.size wr W') => compareRowsR_any _ F' _ _ rowe row W' (hre.later hW) ((HRW.out.later hbi).later hW))
          have HEE := Lib.hid hee
          have hmem := Lib.hid (dat_mem hqe)
          clear e0 hee hre
          go_wp2_with fail
          have q2 := fun w' (h : Tab.Ext (fun _ => False) wr.drew w') => wcell2 (D0.drew.ext h id)
          have q3 := fun w' (h : Tab.Ext (fun _ => False) wr.drew w') => (h.cell (p := ⟨be, oe + q, none⟩) hbe id).trans xe
          have hbw := Lib.hid (fun w' (h : Tab.Ext (fun _ => False) wr.drew w') => (show Below wr.heap.size wr w' from (Below.refl _ _).drew.trans h.below))
          refine Tab.wp_region_tab (Tab.Ext fun _ => False) (by kernel_rfl) (by kernel_rfl) (fun _ => Tab.Ext.refl _ _) (fun _ _ _ h k => h.trans k) ?_
          iterate 11 (first | (refine Tab.tab_moveE _ rfl (Tab.silent_true _) (.inl rfl) rfl rfl (fun _ => Tab.Ext.refl _ _) ?_; apply Exists.intro; refine And.intro ?_ ?_; focus (simp [Tab.Env.ev, Tab.Env.get]; rfl)) | (refine Tab.tab_moveE _ rfl (Tab.silent_true _) (.inr rfl) rfl rfl (fun _ => Tab.Ext.refl _ _) ?_; apply Exists.intro; refine And.intro ?_ ?_; focus (simp [Tab.Env.ev, Tab.Env.get]; rfl)) | refine Tab.tab_skip rfl (Tab.silent_true _) rfl ?_ | (refine Tab.tab_repE rfl (Tab.silent_true _) rfl (fun _ _ h => by cases h) rfl (fun _ => Tab.Ext.refl _ _) ?_; apply Exists.intro; refine And.intro (fun l w' _ _ hw => ?_) ?_; focus (go_simp; rfl)) | (refine Tab.tab_repE rfl (Tab.silent_true _) rfl (fun _ _ h => by cases h) rfl (fun _ => Tab.Ext.refl _ _) ?_; apply Exists.intro; refine And.intro (fun l w' hs hc hw => ?_) ?_; focus (go_simp; rfl)))
          refine Tab.tab_call_is (.int .i64 (cmpL rowe row)) rfl rfl rfl cfCompareRowsR rfl (fun l_ w' _ _ _ hw => ?_) ?_
          · show Calls _ _ #[.slice Ae' me' ce1', .slice A1 m1 c1] w' _
            refine (HCALL.out w' (hbw.out _ hw)).mono ?_
            rintro e_ w_ ⟨rfl, hb_⟩
            exact ⟨rfl, Tab.Ext.of_below hb_, trivial⟩
          iterate 2 (first | (refine Tab.tab_moveE _ rfl (Tab.silent_true _) (.inl rfl) rfl rfl (fun _ => Tab.Ext.refl _ _) ?_; apply Exists.intro; refine And.intro ?_ ?_; focus (simp [Tab.Env.ev, Tab.Env.get]; rfl)) | (refine Tab.tab_moveE _ rfl (Tab.silent_true _) (.inr rfl) rfl rfl (fun _ => Tab.Ext.refl _ _) ?_; apply Exists.intro; refine And.intro ?_ ?_; focus (simp [Tab.Env.ev, Tab.Env.get]; rfl)) | refine Tab.tab_skip rfl (Tab.silent_true _) rfl ?_ | (refine Tab.tab_repE rfl (Tab.silent_true _) rfl (fun _ _ h => by cases h) rfl (fun _ => Tab.Ext.refl _ _) ?_; apply Exists.intro; refine And.intro (fun l w' _ _ hw => ?_) ?_; focus (go_simp; rfl)) | (refine Tab.tab_repE rfl (Tab.silent_true _) rfl (fun _ _ h => by cases h) rfl (fun _ => Tab.Ext.refl _ _) ?_; apply Exists.intro; refine And.intro (fun l w' hs hc hw => ?_) ?_; focus (go_simp; rfl)))
          intro a_ w_ hw_ hsat_
          refine Tab.fin_of_sat rfl ?_ hsat_
          simp only [Tab.fin, Act.put, List.setIfInBounds_toArray, List.set_cons_succ, List.set_cons_zero]
          have hb6 := hbw.out _ hw_
          have HB6 := Lib.hid hb6
          have D6 := D0.below hb6 D0.lt
          have x6 := (hb6.cell (p := ⟨be, oe + q, none⟩) hbe).trans xe
          have hbe6 : be < w_.heap.size := Nat.lt_of_lt_of_le hbe hb6.size
          have HBI := Lib.hid (hbi.trans (hb6.mono hbi.size))
          clear hsat_ hw_ q2 q3 hbw D0 xe hb6 hbi
          by_cases hneg : cmpL rowe row < 0
          · have hd : decide (cmpL rowe row < 0) = true := by simp [hneg]
            have HQ2 := Lib.hid (show ∀ j, j < q + 1 → cmpL (dat es j).row row < 0 from fun j hj => by
              by_cases hjk : j < q
              · exact HQ.out j hjk
              · obtain rfl : j = q := by omega
                rw [HEE.out]
                exact hneg)
            rw [hd]
            clear hneg hd
            go_wp2_with fail
            go_roundw
            case rel => exact ⟨q + 1, hqm, by go_num, HQ2, HBI.out⟩
            case measure => simp [intOf] <;> omega
          · have hd : decide (cmpL rowe row < 0) = false := by simp [hneg]
            rw [hd]
            clear hd
            have HNEG := Lib.hid hneg
            clear hneg
            go_wp2_with fail
            have q2 := fun w' (h : Tab.Ext (fun _ => False) w_.drew w') => wcell2 (D6.drew.ext h id)
            have q3 := fun w' (h : Tab.Ext (fun _ => False) w_.drew w') => (h.cell (p := ⟨be, oe + q, none⟩) hbe6 id).trans x6
            have hbw := Lib.hid (fun w' (h : Tab.Ext (fun _ => False) w_.drew w') => (show Below w_.heap.size w_ w' from (Below.refl _ _).drew.trans h.below))
            refine Tab.wp_region_tab (Tab.Ext fun _ => False) (by kernel_rfl) (by kernel_rfl) (fun _ => Tab.Ext.refl _ _) (fun _ _ _ h k => h.trans k) ?_
            iterate 11 (first | (refine Tab.tab_moveE _ rfl (Tab.silent_true _) (.inl rfl) rfl rfl (fun _ => Tab.Ext.refl _ _) ?_; apply Exists.intro; refine And.intro ?_ ?_; focus (simp [Tab.Env.ev, Tab.Env.get]; rfl)) | (refine Tab.tab_moveE _ rfl (Tab.silent_true _) (.inr rfl) rfl rfl (fun _ => Tab.Ext.refl _ _) ?_; apply Exists.intro; refine And.intro ?_ ?_; focus (simp [Tab.Env.ev, Tab.Env.get]; rfl)) | refine Tab.tab_skip rfl (Tab.silent_true _) rfl ?_ | (refine Tab.tab_repE rfl (Tab.silent_true _) rfl (fun _ _ h => by cases h) rfl (fun _ => Tab.Ext.refl _ _) ?_; apply Exists.intro; refine And.intro (fun l w' _ _ hw => ?_) ?_; focus (go_simp; rfl)) | (refine Tab.tab_repE rfl (Tab.silent_true _) rfl (fun _ _ h => by cases h) rfl (fun _ => Tab.Ext.refl _ _) ?_; apply Exists.intro; refine And.intro (fun l w' hs hc hw => ?_) ?_; focus (go_simp; rfl)))
            refine Tab.tab_call_is (.int .i64 (cmpL rowe row)) rfl rfl rfl cfCompareRowsR rfl (fun l_ w' _ _ _ hw => ?_) ?_
            · show Calls _ _ #[.slice Ae' me' ce1', .slice A1 m1 c1] w' _
              refine (HCALL.out w' (HB6.out.trans ((hbw.out _ hw).mono HB6.out.size))).mono ?_
              rintro e_ w_ ⟨rfl, hb_⟩
              exact ⟨rfl, Tab.Ext.of_below hb_, trivial⟩
            iterate 2 (first | (refine Tab.tab_moveE _ rfl (Tab.silent_true _) (.inl rfl) rfl rfl (fun _ => Tab.Ext.refl _ _) ?_; apply Exists.intro; refine And.intro ?_ ?_; focus (simp [Tab.Env.ev, Tab.Env.get]; rfl)) | (refine Tab.tab_moveE _ rfl (Tab.silent_true _) (.inr rfl) rfl rfl (fun _ => Tab.Ext.refl _ _) ?_; apply Exists.intro; refine And.intro ?_ ?_; focus (simp [Tab.Env.ev, Tab.Env.get]; rfl)) | refine Tab.tab_skip rfl (Tab.silent_true _) rfl ?_ | (refine Tab.tab_repE rfl (Tab.silent_true _) rfl (fun _ _ h => by cases h) rfl (fun _ => Tab.Ext.refl _ _) ?_; apply Exists.intro; refine And.intro (fun l w' _ _ hw => ?_) ?_; focus (go_simp; rfl)) | (refine Tab.tab_repE rfl (Tab.silent_true _) rfl (fun _ _ h => by cases h) rfl (fun _ => Tab.Ext.refl _ _) ?_; apply Exists.intro; refine And.intro (fun l w' hs hc hw => ?_) ?_; focus (go_simp; rfl)))
            intro a_ w_ hw_ hsat_
            refine Tab.fin_of_sat rfl ?_ hsat_
            simp only [Tab.fin, Act.put, List.setIfInBounds_toArray, List.set_cons_succ, List.set_cons_zero]
            have hb8 := hbw.out _ hw_
            have HBX := Lib.hid (HBI.out.trans (hb8.mono HBI.out.size))
            have HB8 := Lib.hid (HB6.out.trans (hb8.mono HB6.out.size))
            clear hsat_ hw_ q2 q3 hbw D6 x6 hb8 hbe6 HBI HB6
            by_cases hz : cmpL rowe row = 0
            · have hd : (cmpL rowe row == 0) = true := by simp [hz]
              have HS := Lib.hid (show DiffI cmpD setN (l.take (k + 1)) (es.map REd) by
                rw [HT.out]
                exact HI.out.1.skip (x := REd (dat es q)) (List.mem_map_of_mem hmem.out) (by rw [HEE.out]; exact hz))
              rw [hd]
              clear hz hd
              have HO9 := Lib.hid (HO2.out.later HBX.out)
              have HB9 := Lib.hid (HBW.out.trans (HBX.out.mono HBW.out.size))
              go_wp2_with fail
              go_roundw
              case rel => exact ⟨k + 1, _, es, hlt, rfl, by go_num, HO9.out, Lib.hid ⟨HS.out, by have := HI.out.2; omega⟩, HB9.out⟩
              case measure => simp [intOf] <;> omega
            · have hd : (cmpL rowe row == 0) = false := by simp [hz]
              have HPOS := Lib.hid (show 0 < cmpL rowe row by have := HNEG.out; omega)
              rw [hd]
              clear hz hd
              have HO9 := Lib.hid (HO2.out.later HBX.out)
              have HB9 := Lib.hid (HBW.out.trans (HBX.out.mono HBW.out.size))
              have hz9 := HB9.out.size
              have D9 := BO.out.below HBX.out BO.out.lt
              have hel : es.length = m := HM.out
              have hel2 : es.length < 1073741824 := by omega
              clear hel
              go_wp2_with (at_builtin; refine append_own2 w_ rfl (.tmp 43) (.tmp 44) 22 rfl w.heap.size 31 underR infoR rfl (by decide) _ _ _ [.slice none 0 0] rfl HO9.out.own rfl rfl (by simp [Value.oneCell']) hel2 (by decide) hz9 ?_)
              intro v' w2 hown' hb2 hkept
              rw [HM.out] at hown'
              obtain ⟨g, cap, rfl, hbg, hgl, hcap1, hcap2⟩ := own_form hown' (Nat.succ_pos _)
              unfold maxLen at hcap2
              have HOWN := Lib.hid hown'
              have HK := Lib.hid hkept
              have HB2 := Lib.hid hb2
              have hgl2 := hgl
              have hfzg := fun o => HOWN.out.frozenAt o
              have hzne := own_blk_ne HO9.out.own D9 (by decide)
              have D2 : Blk w2 z 86 [.slice A1 m1 c1, .int .i64 nk] := (hkept.block z D9.lt hzne).1.trans D9
              have hzg : z ≠ g := fun e => (hkept.block z D9.lt hzne).2 (by rw [e]; rfl)
              clear hown' hkept hb2 D9
              have hcl : ((es.map RE.rv).drop q).length = m - q := by rw [List.length_drop, List.length_map, HM.out]
              have hcp : ∀ ty, (Builtin.copy_ #[22, 22] ty #[.slice (some ⟨g, q + 1, none⟩) (m - q) (cap - (q + 1)), .slice (some ⟨g, q, none⟩) (m + 1 - q) (cap - q)]).run Tryz.prog w2.drew = .ok (goInt (m - q : Nat)) (w2.drew.setCells g (q + 1) ((es.map RE.rv).drop q)) := fun ty => by
                have := run_copy_cells (P := Tryz.prog) w2.drew 22 22 ty 31 g (q + 1) (m - q) (cap - (q + 1)) ⟨g, q, none⟩ (m + 1 - q) (cap - q) ((es.map RE.rv).drop q) underR (by kernel_rfl) (by rw [hcl]; unfold Nat.min; omega) ?_ ?_ ?_ ?_
                · rw [hcl] at this
                  exact this
                · intro j u hj
                  rw [List.getElem?_drop] at hj
                  have h1 := HOWN.out.cellAt (q + j) (by
                    have := (List.getElem?_eq_some_iff.1 hj).1
                    rw [List.length_map, HM.out] at this
                    omega)
                  rw [List.getElem?_append_left (by have := (List.getElem?_eq_some_iff.1 hj).1; exact this), hj] at h1
                  have ha : (⟨g, q, none⟩ : Addr).add j = ⟨g, q + j, none⟩ := by unfold Addr.add; split <;> simp_all
                  rw [ha]
                  exact h1
                · intro j hj
                  have h1 := HOWN.out.cellAt (q + 1 + j) (by omega)
                  rw [show w2.drew.cell? ⟨g, q + 1 + j, none⟩ = w2.cell? ⟨g, q + 1 + j, none⟩ from rfl, h1, List.getElem?_eq_getElem (by rw [List.length_append, List.length_map, HM.out]; simp; omega)]
                  rfl
                · intro j hj
                  exact hfzg _
                · intro u hu
                  obtain ⟨e, he, rfl⟩ := List.mem_map.1 (List.mem_of_mem_drop hu)
                  obtain ⟨_, _, _, _, e1, _⟩ := (HO9.out.good e he).shape
                  rw [e1]
                  rfl
              clear hcl
              go_wp2_with fail
              have hwq := IntWalk.i64_in ((q : Int) + 1) (by omega)
              have htn : ((q : Int) + 1).toNat = q + 1 := by omega
              have hn1 : ¬ cap = q + 1 := by omega
              have hn2 : ¬ cap = q := by omega
              have hg1 : (0 : Int) ≤ (q : Int) + 1 := by omega
              have hg2 : (q : Int) + 1 ≤ (m : Int) + 1 := by omega
              have hg3 : (q : Int) ≤ (m : Int) + 1 := by omega
              refine Tab.wp_region_tabC (fun _ _ => True) (Tab.stageC 7 fun b_ w_' => w_' = if b_ = true then (w2.drew.setCells g (q + 1) ((es.map RE.rv).drop q)) else w2.drew) (by kernel_rfl) (by kernel_rfl) (fun _ => trivial) (fun _ _ _ _ _ => trivial) (Tab.stageC_start rfl) ?_
              iterate 7 (first | (refine Tab.tab_moveE _ rfl (Tab.silent_at (by decide)) (.inl rfl) rfl rfl (fun _ => trivial) ?_; apply Exists.intro; refine And.intro ?_ ?_; focus (simp [Tab.Env.ev, Tab.Env.get]; rfl)) | (refine Tab.tab_moveE _ rfl (Tab.silent_at (by decide)) (.inr rfl) rfl rfl (fun _ => trivial) ?_; apply Exists.intro; refine And.intro ?_ ?_; focus (simp [Tab.Env.ev, Tab.Env.get]; rfl)) | refine Tab.tab_skip rfl (Tab.silent_at (by decide)) rfl ?_ | (refine Tab.tab_repE rfl (Tab.silent_at (by decide)) rfl (fun _ _ h => by cases h) rfl (fun _ => trivial) ?_; apply Exists.intro; refine And.intro (fun l w' _ _ hw => ?_) ?_; focus (go_simp; rfl)) | (refine Tab.tab_repE rfl (Tab.silent_at (by decide)) rfl (fun _ _ h => by cases h) rfl (fun _ => trivial) ?_; apply Exists.intro; refine And.intro (fun l w' hs hc hw => ?_) ?_; focus (first | (go_simp; rfl) | (have h := Tab.stageC_before hc hs (by kernel_rfl); simp only [Bool.false_eq_true, if_false] at h; subst h; skip; go_simp; rfl))))
              (refine Tab.tab_actv (v := goInt (m - q : Nat)) rfl rfl (fun _ _ h => by cases h) rfl (fun l w' hsz hs hc hw => ?_) ?_; focus (have h := Tab.stageC_at hc hs; simp only [Bool.false_eq_true, if_false] at h; subst h; refine ⟨(w2.drew.setCells g (q + 1) ((es.map RE.rv).drop q)), ?_, trivial, Tab.stageC_done (if_pos rfl).symm (by rw [hsz]; decide)⟩; skip; go_simp; done))
              intro l_ a_ w_ hall_ hcl_ _ hsat_
              have hw_ := Tab.stageC_end hcl_ hall_ (by decide)
              simp only [if_true] at hw_
              subst hw_
              refine Tab.fin_of_sat rfl ?_ hsat_
              simp only [Tab.fin, Act.put, List.setIfInBounds_toArray, List.set_cons_succ, List.set_cons_zero]
              clear hwq htn hn1 hn2 hg1 hg2 hg3
              have OW3 := own_setL ((es.map RE.rv).drop q) (q + 1) w2.drew _ (own_keep HOWN.out (fun _ _ => rfl))
              have HX3 := Lib.hid (show Tab.Ext (fun b => b = g) w2 (w2.drew.setCells g (q + 1) ((es.map RE.rv).drop q)) from (Tab.Ext.refl _ _).drew.trans OW3.2)
              have HLS := Lib.hid (show (setL (es.map RE.rv ++ [.slice none 0 0]) (q + 1) ((es.map RE.rv).drop q)).set q (.slice A1 m1 c1) = (es.take q ++ (RE.mk (.slice A1 m1 c1) row) :: es.drop q).map RE.rv by
                have hl : (es.map RE.rv).length = m := by rw [List.length_map, HM.out]
                rw [setL_eq _ _ _ (by rw [List.length_append, List.length_drop, hl]; simp; omega)]
                have e1 : (es.map RE.rv ++ [Value.slice none 0 0]).take (q + 1) = (es.map RE.rv).take (q + 1) := List.take_append_of_le_length (by omega)
                have e2 : (es.map RE.rv ++ [Value.slice none 0 0]).drop (q + 1 + ((es.map RE.rv).drop q).length) = [] := List.drop_eq_nil_of_le (by rw [List.length_append, List.length_drop, hl]; simp; omega)
                rw [e1, e2, List.append_nil, List.take_succ_eq_append_getElem (by omega), List.append_assoc, List.set_append_right _ _ (by rw [List.length_take]; omega)]
                simp [List.map_take, List.map_drop, hl, Nat.min_eq_left hq])
              generalize hw3 : w2.drew.setCells g (q + 1) ((es.map RE.rv).drop q) = w3 at *
              have HOW4 := Lib.hid (OW3.1.stored q (.slice A1 m1 c1)).1
              rw [HLS.out] at HOW4
              have D3 := D2.ext HX3.out hzg
              have q9 := wcell2 D3
              have hfz3 := fun o => OW3.1.frozenAt o
              obtain ⟨uq, hcq⟩ : ∃ u, w3.cell? ⟨g, q, none⟩ = some u := ⟨_, (OW3.1.cellAt q (by omega)).trans (List.getElem?_eq_getElem (by rw [OW3.1.1]; omega))⟩
              have hgl3 : g < w3.heap.size := Nat.lt_of_lt_of_le hgl HX3.out.size
              have HX4 := Lib.hid (HX3.out.setCell (p := ⟨g, q, none⟩) (.inl rfl) (.slice A1 m1 c1))
              have HNEW := Lib.hid (show OwnRs (w3.setCell ⟨g, q, none⟩ (.slice A1 m1 c1)) w.heap.size (fun b => F' b ∧ b < w.heap.size) (.slice (some ⟨g, 0, none⟩) (m + 1) cap) (es.take q ++ (RE.mk (.slice A1 m1 c1) row) :: es.drop q) by
                have hle : (es.take q ++ (RE.mk (.slice A1 m1 c1) row) :: es.drop q).length = m + 1 := by
                  rw [List.length_append, List.length_cons, List.length_take, List.length_drop, HM.out]; omega
                refine ⟨by rw [hle]; exact HOW4.out, fun e he => ?_⟩
                have old : ∀ e, e ∈ es → RI (w3.setCell ⟨g, q, none⟩ (.slice A1 m1 c1)) (fun b => (F' b ∧ b < w.heap.size) ∧ Value.ownBlock (.slice (some ⟨g, 0, none⟩) (m + 1) cap) ≠ some b) e.rv e.row := fun e he =>
                  (HK.out.ri (HO9.out.good e he)).ext HX4.out (fun b hb e => hb.2 (by rw [e]; rfl))
                rcases List.mem_append.1 he with he | he
                · exact old e (List.mem_of_mem_take he)
                · rcases List.mem_cons.1 he with rfl | he
                  · refine (((HG0.out.row.mono (F' := fun b => F' b ∧ b < w.heap.size) (fun b hb h => ⟨hb, h⟩)).later (HB9.out.trans HB2.out)).ext HX4.out (fun b hb e => by have := hb.2; omega)).mono (fun b hb _ => ⟨hb, fun e => ?_⟩)
                    have e' : some g = some b := e
                    injection e' with e'
                    have := hb.2
                    omega
                  · exact old e (List.mem_of_mem_drop he))
              have HD := Lib.hid (show DiffI cmpD setN (l.take (k + 1)) ((es.take q ++ (RE.mk (.slice A1 m1 c1) row) :: es.drop q).map REd) by
                rw [HT.out, List.map_append, List.map_cons, List.map_take, List.map_drop]
                refine HI.out.1.ins cntD (k := q) (fun j hj hjq => ?_) (fun hj => ?_)
                · rw [List.getElem_map]
                  have := HQ.out j hjq
                  rw [List.length_map] at hj
                  rw [dat_eq hj] at this
                  exact this
                · rw [List.getElem_map]
                  have := HPOS.out
                  rw [List.length_map] at hj
                  have h2 := HEE.out
                  rw [dat_eq hj] at h2
                  rw [h2]
                  exact this)
              have HBF := Lib.hid (show Below w.heap.size w (w3.setCell ⟨g, q, none⟩ (.slice A1 m1 c1)) from (HB9.out.trans HB2.out).trans ⟨HX4.out.os, HX4.out.tape, HX4.out.output, HX4.out.size, fun b hb => HX4.out.block b (by have := HB2.out.size; omega) (by omega)⟩)
              have HLE := Lib.hid (show (es.take q ++ (RE.mk (.slice A1 m1 c1) row) :: es.drop q).length ≤ k + 1 by
                rw [List.length_append, List.length_cons, List.length_take, List.length_drop, HM.out]; omega)
              clear OW3 D3 hw3 hcp
              go_wp2_with fail
              go_roundw
              case rel => exact ⟨k + 1, _, _, hlt, rfl, by go_num, HNEW.out, Lib.hid ⟨HD.out, HLE.out⟩, HBF.out⟩
              case measure => simp [intOf] <;> omega
        · obtain rfl : q = m := by omega
          go_wp2_with fail
          have hbw := Lib.hid (fun w' (h : Tab.Ext (fun _ => False) wr.drew w') => (show Below wr.heap.size wr w' from (Below.refl _ _).drew.trans h.below))
          refine Tab.wp_region_tab (Tab.Ext fun _ => False) (by kernel_rfl) (by kernel_rfl) (fun _ => Tab.Ext.refl _ _) (fun _ _ _ h k => h.trans k) ?_
          iterate 14 (first | (refine Tab.tab_moveE _ rfl (Tab.silent_true _) (.inl rfl) rfl rfl (fun _ => Tab.Ext.refl _ _) ?_; apply Exists.intro; refine And.intro ?_ ?_; focus (simp [Tab.Env.ev, Tab.Env.get]; rfl)) | (refine Tab.tab_moveE _ rfl (Tab.silent_true _) (.inr rfl) rfl rfl (fun _ => Tab.Ext.refl _ _) ?_; apply Exists.intro; refine And.intro ?_ ?_; focus (simp [Tab.Env.ev, Tab.Env.get]; rfl)) | refine Tab.tab_skip rfl (Tab.silent_true _) rfl ?_ | (refine Tab.tab_repE rfl (Tab.silent_true _) rfl (fun _ _ h => by cases h) rfl (fun _ => Tab.Ext.refl _ _) ?_; apply Exists.intro; refine And.intro (fun l w' _ _ hw => ?_) ?_; focus (go_simp; rfl)) | (refine Tab.tab_repE rfl (Tab.silent_true _) rfl (fun _ _ h => by cases h) rfl (fun _ => Tab.Ext.refl _ _) ?_; apply Exists.intro; refine And.intro (fun l w' hs hc hw => ?_) ?_; focus (go_simp; rfl)))
          intro a_ w_ hw_ hsat_
          refine Tab.fin_of_sat rfl ?_ hsat_
          simp only [Tab.fin, Act.put, List.setIfInBounds_toArray, List.set_cons_succ, List.set_cons_zero]
          have hb6 := hbw.out _ hw_
          have HBI := Lib.hid (hbi.trans (hb6.mono hbi.size))
          clear hsat_ hw_ hbw hb6
          go_wp2_with fail
          have hbw := Lib.hid (fun w' (h : Tab.Ext (fun _ => False) w_.drew w') => (show Below w_.heap.size w_ w' from (Below.refl _ _).drew.trans h.below))
          refine Tab.wp_region_tab (Tab.Ext fun _ => False) (by kernel_rfl) (by kernel_rfl) (fun _ => Tab.Ext.refl _ _) (fun _ _ _ h k => h.trans k) ?_
          iterate 14 (first | (refine Tab.tab_moveE _ rfl (Tab.silent_true _) (.inl rfl) rfl rfl (fun _ => Tab.Ext.refl _ _) ?_; apply Exists.intro; refine And.intro ?_ ?_; focus (simp [Tab.Env.ev, Tab.Env.get]; rfl)) | (refine Tab.tab_moveE _ rfl (Tab.silent_true _) (.inr rfl) rfl rfl (fun _ => Tab.Ext.refl _ _) ?_; apply Exists.intro; refine And.intro ?_ ?_; focus (simp [Tab.Env.ev, Tab.Env.get]; rfl)) | refine Tab.tab_skip rfl (Tab.silent_true _) rfl ?_ | (refine Tab.tab_repE rfl (Tab.silent_true _) rfl (fun _ _ h => by cases h) rfl (fun _ => Tab.Ext.refl _ _) ?_; apply Exists.intro; refine And.intro (fun l w' _ _ hw => ?_) ?_; focus (go_simp; rfl)) | (refine Tab.tab_repE rfl (Tab.silent_true _) rfl (fun _ _ h => by cases h) rfl (fun _ => Tab.Ext.refl _ _) ?_; apply Exists.intro; refine And.intro (fun l w' hs hc hw => ?_) ?_; focus (go_simp; rfl)))
          intro a_ w_ hw_ hsat_
          refine Tab.fin_of_sat rfl ?_ hsat_
          simp only [Tab.fin, Act.put, List.setIfInBounds_toArray, List.set_cons_succ, List.set_cons_zero]
          have HBX := Lib.hid (HBI.out.trans ((hbw.out _ hw_).mono HBI.out.size))
          clear hsat_ hw_ hbw HBI
          have HO9 := Lib.hid (HO2.out.later HBX.out)
          have HB9 := Lib.hid (HBW.out.trans (HBX.out.mono HBW.out.size))
          have hz9 := HB9.out.size
          have D9 := BO.out.below HBX.out BO.out.lt
          have hel : es.length = q := HM.out
          have hel2 : es.length < 1073741824 := by omega
          clear hel
          go_wp2_with (at_builtin; refine append_own2 w_ rfl (.tmp 43) (.tmp 44) 22 rfl w.heap.size 31 underR infoR rfl (by decide) _ _ _ [.slice none 0 0] rfl HO9.out.own rfl rfl (by simp [Value.oneCell']) hel2 (by decide) hz9 ?_)
          intro v' w2 hown' hb2 hkept
          rw [HM.out] at hown'
          obtain ⟨g, cap, rfl, hbg, hgl, hcap1, hcap2⟩ := own_form hown' (Nat.succ_pos _)
          unfold maxLen at hcap2
          have HOWN := Lib.hid hown'
          have HK := Lib.hid hkept
          have HB2 := Lib.hid hb2
          have hzne := own_blk_ne HO9.out.own D9 (by decide)
          have D2 : Blk w2 z 86 [.slice A1 m1 c1, .int .i64 nk] := (hkept.block z D9.lt hzne).1.trans D9
          have hzg : z ≠ g := fun e => (hkept.block z D9.lt hzne).2 (by rw [e]; rfl)
          clear hown' hkept hb2 D9
          have hcp : ∀ ty (d a : Option Addr) (c1 c2 : Nat), (Builtin.copy_ #[22, 22] ty #[.slice d 0 c1, .slice a 1 c2]).run Tryz.prog w2.drew = .ok (goInt 0) w2.drew := fun ty d a c1 c2 =>
            run_copy_none (P := Tryz.prog) w2.drew 22 22 ty 31 d a 0 c1 1 c2 underR (by kernel_rfl) rfl
          go_wp2_with fail
          have hwq := IntWalk.i64_in ((q : Int) + 1) (by omega)
          have htn : ((q : Int) + 1).toNat = q + 1 := by omega
          have hg1 : (0 : Int) ≤ (q : Int) + 1 := by omega
          have hg3 : (q : Int) ≤ (q : Int) + 1 := by omega
          have hn2 : ¬ cap = q := by omega
          have hs1 : q + 1 - q = 1 := by omega
          by_cases hn1 : cap = q + 1
          · refine Tab.wp_region_tabC (fun _ _ => True) (fun _ w_' => w_' = w2.drew) (by kernel_rfl) (by kernel_rfl) (fun _ => trivial) (fun _ _ _ _ _ => trivial) rfl ?_
            iterate 8 (first | (refine Tab.tab_moveE _ rfl ((fun _ _ h => h)) (.inl rfl) rfl rfl (fun _ => trivial) ?_; apply Exists.intro; refine And.intro ?_ ?_; focus (simp [Tab.Env.ev, Tab.Env.get]; rfl)) | (refine Tab.tab_moveE _ rfl ((fun _ _ h => h)) (.inr rfl) rfl rfl (fun _ => trivial) ?_; apply Exists.intro; refine And.intro ?_ ?_; focus (simp [Tab.Env.ev, Tab.Env.get]; rfl)) | refine Tab.tab_skip rfl ((fun _ _ h => h)) rfl ?_ | (refine Tab.tab_repE rfl ((fun _ _ h => h)) rfl (fun _ _ h => by cases h) rfl (fun _ => trivial) ?_; apply Exists.intro; refine And.intro (fun l w' _ _ hw => ?_) ?_; focus (go_simp; rfl)) | (refine Tab.tab_repE rfl ((fun _ _ h => h)) rfl (fun _ _ h => by cases h) rfl (fun _ => trivial) ?_; apply Exists.intro; refine And.intro (fun l w' hs hc hw => ?_) ?_; focus ((subst hc; go_simp; rfl))))
            intro l_ a_ w_ hall_ hcl_ _ hsat_
            have hw_ : w_ = w2.drew := hcl_
            subst hw_
            clear hcl_ hall_
            refine Tab.fin_of_sat rfl ?_ hsat_
            simp only [Tab.fin, Act.put, List.setIfInBounds_toArray, List.set_cons_succ, List.set_cons_zero]
            clear hwq htn hg1 hg3 hn2 hs1 hn1 hcp
            have HOW4 := Lib.hid (show (w2.drew.setCell ⟨g, q, none⟩ (.slice A1 m1 c1)).ownsRow w.heap.size 31 1 (.slice (some ⟨g, 0, none⟩) (q + 1) cap) (q + 1) ((es ++ [RE.mk (.slice A1 m1 c1) row]).map RE.rv) by
              have h1 := ((own_keep HOWN.out (fun _ _ => rfl) : w2.drew.ownsRow w.heap.size 31 1 (.slice (some ⟨g, 0, none⟩) (q + 1) cap) (q + 1) (es.map RE.rv ++ [.slice none 0 0])).stored q (.slice A1 m1 c1)).1
              have hl : (es.map RE.rv).length = q := by rw [List.length_map, HM.out]
              rw [List.set_append_right _ _ (by omega), hl, Nat.sub_self] at h1
              rw [List.map_append]
              exact h1)
            have q9 := wcell2 D2
            have hfz3 : ∀ o, w2.drew.frozen? ⟨g, o, none⟩ = false := fun o => HOWN.out.frozenAt o
            have hgl3 : g < w2.drew.heap.size := hgl
            have hcq : w2.drew.cell? ⟨g, q, none⟩ = some _ := (HOWN.out.cellAt q (by omega)).trans (List.getElem?_eq_getElem (by rw [HOWN.out.1]; omega))
            have q10 := wcell2 (show Blk w2.drew z 86 [.slice A1 m1 c1, .int .i64 nk] from D2)
            have HX4 := Lib.hid (show Tab.Ext (fun b => b = g) w2 (w2.drew.setCell ⟨g, q, none⟩ (.slice A1 m1 c1)) from (Tab.Ext.refl (fun b => b = g) w2).drew.setCell (p := ⟨g, q, none⟩) (.inl rfl) (.slice A1 m1 c1))
            have HNEW := Lib.hid (show OwnRs (w2.drew.setCell ⟨g, q, none⟩ (.slice A1 m1 c1)) w.heap.size (fun b => F' b ∧ b < w.heap.size) (.slice (some ⟨g, 0, none⟩) (q + 1) cap) (es ++ [RE.mk (.slice A1 m1 c1) row]) by
              refine ⟨by rw [List.length_append, HM.out]; exact HOW4.out, fun e he => ?_⟩
              rcases List.mem_append.1 he with he | he
              · exact (HK.out.ri (HO9.out.good e he)).ext HX4.out (fun b hb e => hb.2 (by rw [e]; rfl))
              · rw [List.mem_singleton.1 he]
                refine (((HG0.out.row.mono (F' := fun b => F' b ∧ b < w.heap.size) (fun b hb h => ⟨hb, h⟩)).later (HB9.out.trans HB2.out)).ext HX4.out (fun b hb e => by have := hb.2; omega)).mono (fun b hb _ => ⟨hb, fun e => ?_⟩)
                have e' : some g = some b := e
                injection e' with e'
                have := hb.2
                omega)
            have HD := Lib.hid (show DiffI cmpD setN (l.take (k + 1)) ((es ++ [RE.mk (.slice A1 m1 c1) row]).map REd) by
              rw [HT.out, List.map_append]
              have h1 := HI.out.1.ins cntD (d := ⟨.slice A1 m1 c1, row, nk⟩) (k := q) (fun j hj hjq => by
                rw [List.getElem_map]
                have := HQ.out j hjq
                rw [List.length_map] at hj
                rw [dat_eq hj] at this
                exact this) (fun hj => absurd hj (by rw [List.length_map, HM.out]; omega))
              have e1 : (es.map REd).take q = es.map REd := List.take_of_length_le (by rw [List.length_map, HM.out]; omega)
              have e2 : (es.map REd).drop q = [] := List.drop_eq_nil_of_le (by rw [List.length_map, HM.out]; omega)
              rw [e1, e2] at h1
              exact h1)
            have HBF := Lib.hid (show Below w.heap.size w (w2.drew.setCell ⟨g, q, none⟩ (.slice A1 m1 c1)) from (HB9.out.trans HB2.out).trans ⟨HX4.out.os, HX4.out.tape, HX4.out.output, HX4.out.size, fun b hb => HX4.out.block b (by have := HB2.out.size; omega) (by omega)⟩)
            have HLE := Lib.hid (show (es ++ [RE.mk (.slice A1 m1 c1) row]).length ≤ k + 1 by
              rw [List.length_append, HM.out]; simp; omega)
            generalize w2.drew = w3 at *
            go_wp2_with fail
            go_roundw
            case rel => exact ⟨k + 1, _, _, hlt, rfl, by go_num, HNEW.out, Lib.hid ⟨HD.out, HLE.out⟩, HBF.out⟩
            case measure => simp [intOf] <;> omega
          · refine Tab.wp_region_tabC (fun _ _ => True) (fun _ w_' => w_' = w2.drew) (by kernel_rfl) (by kernel_rfl) (fun _ => trivial) (fun _ _ _ _ _ => trivial) rfl ?_
            iterate 8 (first | (refine Tab.tab_moveE _ rfl ((fun _ _ h => h)) (.inl rfl) rfl rfl (fun _ => trivial) ?_; apply Exists.intro; refine And.intro ?_ ?_; focus (simp [Tab.Env.ev, Tab.Env.get]; rfl)) | (refine Tab.tab_moveE _ rfl ((fun _ _ h => h)) (.inr rfl) rfl rfl (fun _ => trivial) ?_; apply Exists.intro; refine And.intro ?_ ?_; focus (simp [Tab.Env.ev, Tab.Env.get]; rfl)) | refine Tab.tab_skip rfl ((fun _ _ h => h)) rfl ?_ | (refine Tab.tab_repE rfl ((fun _ _ h => h)) rfl (fun _ _ h => by cases h) rfl (fun _ => trivial) ?_; apply Exists.intro; refine And.intro (fun l w' _ _ hw => ?_) ?_; focus (go_simp; rfl)) | (refine Tab.tab_repE rfl ((fun _ _ h => h)) rfl (fun _ _ h => by cases h) rfl (fun _ => trivial) ?_; apply Exists.intro; refine And.intro (fun l w' hs hc hw => ?_) ?_; focus ((subst hc; go_simp; rfl))))
            intro l_ a_ w_ hall_ hcl_ _ hsat_
            have hw_ : w_ = w2.drew := hcl_
            subst hw_
            clear hcl_ hall_
            refine Tab.fin_of_sat rfl ?_ hsat_
            simp only [Tab.fin, Act.put, List.setIfInBounds_toArray, List.set_cons_succ, List.set_cons_zero]
            clear hwq htn hg1 hg3 hn2 hs1 hn1 hcp
            have HOW4 := Lib.hid (show (w2.drew.setCell ⟨g, q, none⟩ (.slice A1 m1 c1)).ownsRow w.heap.size 31 1 (.slice (some ⟨g, 0, none⟩) (q + 1) cap) (q + 1) ((es ++ [RE.mk (.slice A1 m1 c1) row]).map RE.rv) by
              have h1 := ((own_keep HOWN.out (fun _ _ => rfl) : w2.drew.ownsRow w.heap.size 31 1 (.slice (some ⟨g, 0, none⟩) (q + 1) cap) (q + 1) (es.map RE.rv ++ [.slice none 0 0])).stored q (.slice A1 m1 c1)).1
              have hl : (es.map RE.rv).length = q := by rw [List.length_map, HM.out]
              rw [List.set_append_right _ _ (by omega), hl, Nat.sub_self] at h1
              rw [List.map_append]
              exact h1)
            have q9 := wcell2 D2
            have hfz3 : ∀ o, w2.drew.frozen? ⟨g, o, none⟩ = false := fun o => HOWN.out.frozenAt o
            have hgl3 : g < w2.drew.heap.size := hgl
            have hcq : w2.drew.cell? ⟨g, q, none⟩ = some _ := (HOWN.out.cellAt q (by omega)).trans (List.getElem?_eq_getElem (by rw [HOWN.out.1]; omega))
            have q10 := wcell2 (show Blk w2.drew z 86 [.slice A1 m1 c1, .int .i64 nk] from D2)
            have HX4 := Lib.hid (show Tab.Ext (fun b => b = g) w2 (w2.drew.setCell ⟨g, q, none⟩ (.slice A1 m1 c1)) from (Tab.Ext.refl (fun b => b = g) w2).drew.setCell (p := ⟨g, q, none⟩) (.inl rfl) (.slice A1 m1 c1))
            have HNEW := Lib.hid (show OwnRs (w2.drew.setCell ⟨g, q, none⟩ (.slice A1 m1 c1)) w.heap.size (fun b => F' b ∧ b < w.heap.size) (.slice (some ⟨g, 0, none⟩) (q + 1) cap) (es ++ [RE.mk (.slice A1 m1 c1) row]) by
              refine ⟨by rw [List.length_append, HM.out]; exact HOW4.out, fun e he => ?_⟩
              rcases List.mem_append.1 he with he | he
              · exact (HK.out.ri (HO9.out.good e he)).ext HX4.out (fun b hb e => hb.2 (by rw [e]; rfl))
              · rw [List.mem_singleton.1 he]
                refine (((HG0.out.row.mono (F' := fun b => F' b ∧ b < w.heap.size) (fun b hb h => ⟨hb, h⟩)).later (HB9.out.trans HB2.out)).ext HX4.out (fun b hb e => by have := hb.2; omega)).mono (fun b hb _ => ⟨hb, fun e => ?_⟩)
                have e' : some g = some b := e
                injection e' with e'
                have := hb.2
                omega)
            have HD := Lib.hid (show DiffI cmpD setN (l.take (k + 1)) ((es ++ [RE.mk (.slice A1 m1 c1) row]).map REd) by
              rw [HT.out, List.map_append]
              have h1 := HI.out.1.ins cntD (d := ⟨.slice A1 m1 c1, row, nk⟩) (k := q) (fun j hj hjq => by
                rw [List.getElem_map]
                have := HQ.out j hjq
                rw [List.length_map] at hj
                rw [dat_eq hj] at this
                exact this) (fun hj => absurd hj (by rw [List.length_map, HM.out]; omega))
              have e1 : (es.map REd).take q = es.map REd := List.take_of_length_le (by rw [List.length_map, HM.out]; omega)
              have e2 : (es.map REd).drop q = [] := List.drop_eq_nil_of_le (by rw [List.length_map, HM.out]; omega)
              rw [e1, e2] at h1
              exact h1)
            have HBF := Lib.hid (show Below w.heap.size w (w2.drew.setCell ⟨g, q, none⟩ (.slice A1 m1 c1)) from (HB9.out.trans HB2.out).trans ⟨HX4.out.os, HX4.out.tape, HX4.out.output, HX4.out.size, fun b hb => HX4.out.block b (by have := HB2.out.size; omega) (by omega)⟩)
            have HLE := Lib.hid (show (es ++ [RE.mk (.slice A1 m1 c1) row]).length ≤ k + 1 by
              rw [List.length_append, HM.out]; simp; omega)
            generalize w2.drew = w3 at *
            go_wp2_with fail
            go_roundw
            case rel => exact ⟨k + 1, _, _, hlt, rfl, by go_num, HNEW.out, Lib.hid ⟨HD.out, HLE.out⟩, HBF.out⟩
            case measure => simp [intOf] <;> omega
    · obtain rfl : k = n := by omega
      have htk : l.take k = l := List.take_of_length_le (by rw [HN.out]; omega)
      rw [htk] at HI
      go_wp2_with fail
      go_ret
      exact ⟨_, es, rfl, HO.out, HI.out.1, by rw [HN.out]; exact HI.out.2, HB.out⟩
end Go.Proofs.YthejmnmkbldacaaGreatDoor
