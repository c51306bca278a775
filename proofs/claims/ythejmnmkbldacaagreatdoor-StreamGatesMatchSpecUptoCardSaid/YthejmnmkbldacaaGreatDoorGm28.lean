/-
  What is proved: what the reference's Offer leaves, in the terms of the program's Offer. Conditions: the tables of unicode/utf8 lie as they are laid; fewer than 2^30 rows wait.
  What is proved: the reference's canonical lists. Conditions: fewer than 2^22 differences.
-/
import Derived.Test.YthejmnmkbldacaaGreatDoorGm27
import Derived.Test.YthejmnmkbldacaaGreatDoorGm22
set_option linter.all false
namespace Go.Proofs.YthejmnmkbldacaaGreatDoor
open Go.RowKit
attribute [local go_sem] Tab.Env.ev Tab.Env.get

/-- what a call leaves alone of what lay before it -/
structure FrR (w wr : World) (g : Nat) (mv iv vw vw' vl : Value) : Prop where
  blk : ∀ b, b < w.heap.size → ¬ RMut g mv iv vw b → wr.heap[b]? = w.heap[b]?
  nl : ∀ b, vl.ownBlock = some b → w.heap.size ≤ b
  nw : ∀ b, vw'.ownBlock = some b → vw.ownBlock = some b ∨ w.heap.size ≤ b
section
variable {w wr w3 w4 : World} {g : Nat} {mv iv vw vw' vl v' : Value}
theorem FrR.late (h : FrR w wr g mv iv vw vw' vl) (hz : w.heap.size ≤ wr.heap.size) (hk : Kept wr w4 vl v') : FrR w w4 g mv iv vw vw' v' := by
  refine ⟨fun b hlt hm => ?_, fun b e => ?_, h.nw⟩
  · exact (hk.block b (by omega) (fun e => by have := h.nl b e; omega)).1.trans (h.blk b hlt hm)
  · by_cases hlt : b < wr.heap.size
    · by_cases hv : vl.ownBlock = some b
      · exact h.nl b hv
      · exact absurd e (hk.block b hlt hv).2
    · omega
theorem FrR.wait (h : FrR w wr g mv iv vw vw' vl) (hz : w.heap.size ≤ wr.heap.size) (hk : Kept wr w4 vw' v') (v : Value) : FrR w (w4.setCell ⟨g, 5, none⟩ v) g mv iv vw v' vl := by
  refine ⟨fun b hlt hm => ?_, h.nl, fun b e => ?_⟩
  · have hv : vw'.ownBlock ≠ some b := fun e => by
      rcases h.nw b e with e | e
      · exact hm (.inr (.inr (.inr e)))
      · omega
    exact (Below.heap_setCell _ _ _ _ (show b ≠ g from fun e => hm (.inl e))).trans ((hk.block b (by omega) hv).1.trans (h.blk b hlt hm))
  · by_cases hlt : b < wr.heap.size
    · by_cases hv : vw'.ownBlock = some b
      · exact h.nw b hv
      · exact absurd e (hk.block b hlt hv).2
    · right
      omega
theorem FrR.gate (h : FrR w wr g mv iv vw vw' vl) (hz : w.heap.size ≤ wr.heap.size) (hx : Tab.Ext (fun b => b = g ∨ mv.ownBlock = some b ∨ iv.ownBlock = some b) wr w3) : FrR w w3 g mv iv vw vw' vl :=
  ⟨fun b hlt hm => (hx.block b (by omega) (fun e => hm (e.elim .inl fun e => e.elim (fun e => .inr (.inl e)) fun e => .inr (.inr (.inl e))))).trans (h.blk b hlt hm), h.nl, h.nw⟩
end

/-- what the reference's Offer leaves -/
def ROffPost (base g : Nat) (D : GateD) (mv iv vw : Value) (ws : List RE) (source : Int) (l : List (List VD)) (w : World) (e : Ending) (w' : World) : Prop :=
  Tab.Ext (fun b => RMut g mv iv vw b) w w' ∧
  ((¬ (0 ≤ source ∧ source ≤ (D.srcs.length : Int) - 1) ∧ e = .returned (.tuple #[.slice none 0 0, .int .i64 3]) ∧ RGateS w' base g D mv iv vw ws (.slice none 0 0) []) ∨
   ((0 ≤ source ∧ source ≤ (D.srcs.length : Int) - 1) ∧ rowsErr D.column l ≠ 0 ∧ e = .returned (.tuple #[.slice none 0 0, .int .i64 (rowsErr D.column l)]) ∧ RGateS w' base g D mv iv vw ws (.slice none 0 0) []) ∨
   ((0 ≤ source ∧ source ≤ (D.srcs.length : Int) - 1) ∧ rowsErr D.column l = 0 ∧ ∃ vl ls vw' ws', e = .returned (.tuple #[vl, .int .i64 0]) ∧ RR w' (fun b => w.heap.size ≤ b) (fun b => b < base) vl ls ∧ rowsD ls = (offAll source.toNat (offBegin D source.toNat, [], []) l).2.1 ∧
     RGateS w' base g (offAll source.toNat (offBegin D source.toNat, [], []) l).1 mv iv vw' (ws ++ ws') (.slice none 0 0) [] ∧ rowsD ws' = (offAll source.toNat (offBegin D source.toNat, [], []) l).2.2 ∧ (∀ b, vw'.ownBlock = some b → vw.ownBlock = some b ∨ w.heap.size ≤ b)))

theorem RGateM.len {w : World} {base g : Nat} {D : GateD} {bm bi cm ci n : Nat} {vw : Value} (h : RGateM w base g D (.slice (some ⟨bm, 0, none⟩) n cm) (.slice (some ⟨bi, 0, none⟩) n ci) vw) : D.srcs.length = n := by
  obtain ⟨g, cap, e, _⟩ := own_form h.mown (by have := h.ok.some_; omega)
  injection e with _ e _
  exact e.symm
theorem RGateM.atN {w : World} {base g : Nat} {D : GateD} {bm bi cm ci n : Nat} {vw : Value} {i : Nat} (h : RGateM w base g D (.slice (some ⟨bm, 0, none⟩) n cm) (.slice (some ⟨bi, 0, none⟩) n ci) vw) (hi : i < n) :
    ∃ m b, D.srcs[i]? = some (m, b) ∧ w.cell? ⟨bm, i, none⟩ = some (.int .i64 m) ∧ w.cell? ⟨bi, i, none⟩ = some (.bool b) := by
  obtain rfl := h.len
  exact h.at_ hi
theorem RGateM.setMarkN {w : World} {base g : Nat} {D : GateD} {vw : Value} {bm bi cm ci n : Nat} (h : RGateM w base g D (.slice (some ⟨bm, 0, none⟩) n cm) (.slice (some ⟨bi, 0, none⟩) n ci) vw) {i : Nat} {m0 : Int} {b : Bool} (hi : D.srcs[i]? = some (m0, b)) (m : Int) (hm : Mom m) : RGateM (w.setCell ⟨bm, i, none⟩ (.int .i64 m)) base g (setSrc D i (m, b)) (.slice (some ⟨bm, 0, none⟩) n cm) (.slice (some ⟨bi, 0, none⟩) n ci) vw := by
  obtain rfl := h.len
  exact h.setMarkAt hi m hm

set_option maxHeartbeats 4000000 in
set_option maxRecDepth 100000 in
theorem offerR_any (w : World) (base g : Nat) (D : GateD) (mv iv vw : Value) (ws : List RE) (hS : RGateS w base g D mv iv vw ws (.slice none 0 0) []) (hT : Tabs w) (hbase : base ≤ w.heap.size)
    (v : Value) (l : List RE) (hr : RR w (fun b => b < base) (fun b => b < base) v l) (hn : ws.length + l.length < 1073741824) (source : Int) :
    Calls Tryz.prog 21 #[.pointer (some ⟨g, 0, none⟩), .int .i64 source, v] w (ROffPost base g D mv iv vw ws source (rowsD l) w) := by
  obtain ⟨bm, cm, bi, ci, rfl, rfl, hbm, hbi, hcm, hci, hcm2, hci2, hbm2, hbi2⟩ := hS.gm.form
  have q := wcell6 hS.gm.blk
  have hgl := hS.gm.blk.lt
  have hfew := hS.gm.ok.few
  have hsome := hS.gm.ok.some_
  obtain ⟨ns, hns⟩ : ∃ n, D.srcs.length = n := ⟨_, rfl⟩
  have HNS := Lib.hid hns
  have HS := Lib.hid hS
  rw [hns] at q hfew hsome HS hcm hci ⊢
  cases hd : decide ((0 : Int) ≤ source ∧ source ≤ (ns : Int) - 1) with
  | false =>
    have HN := Lib.hid (of_decide_eq_false hd)
    have HD := Lib.hid hd
    obtain ⟨_, A, c, e, _⟩ := hr.sl
    subst e
    clear hS hd hr hT hns
    go_enter Tryz.func21, Tryz.ntmps21
    go_wp2_with fail
    refine (within9_any _ _ _ _).mono ?_
    rintro e w1 ⟨rfl, rfl⟩
    rw [HD.out]
    go_wp2_with fail
    go_ret2
    exact ⟨Tab.Ext.refl _ _, .inl ⟨by rw [HNS.out]; exact HN.out, rfl, HS.out⟩⟩
  | true =>
    have hin : (0 : Int) ≤ source ∧ source ≤ (ns : Int) - 1 := of_decide_eq_true hd
    have HIN := Lib.hid (show (0 : Int) ≤ source ∧ source ≤ (D.srcs.length : Int) - 1 by rw [hns]; exact hin)
    have HD := Lib.hid hd
    obtain ⟨i, rfl⟩ : ∃ i : Nat, source = i := ⟨source.toNat, by omega⟩
    have hi : i < ns := by omega
    have HR := Lib.hid hr
    have HT := Lib.hid hT
    obtain ⟨_, A, c, e, hc1, hc2, _⟩ := hr.sl
    subst e
    unfold maxLen at hc2
    obtain ⟨n, hln⟩ : ∃ n, l.length = n := ⟨_, rfl⟩
    have HN := Lib.hid hln
    rw [hln] at hc1 hn ⊢
    obtain ⟨cn, hcn⟩ : ∃ cn : Nat, D.column = cn := ⟨D.column.toNat, by have := hS.gm.ok.col; omega⟩
    have HCN := Lib.hid hcn
    have hcni := hS.gm.ok.coli
    rw [hcn] at q hcni
    clear hS hd hr hT hln hcn hns
    go_enter Tryz.func21, Tryz.ntmps21
    go_wp2_with fail
    refine (within9_any _ _ _ _).mono ?_
    rintro e w1 ⟨rfl, rfl⟩
    rw [HD.out]
    go_wp2_with fail
    go_loopw [6, 7, 9, 25] (fun _ _ _ j wr => ∃ k : Nat, k ≤ n ∧ j = .int .i64 k ∧ Below w.heap.size w wr ∧ Hid (∀ m (h : m < (rowsD l).length), m < k → rowErr cn (rowsD l)[m] = 0)) (fun _ _ _ j _ => n - (intOf j).toNat)
    case atStart => exact ⟨0, Nat.zero_le _, rfl, Below.refl _ _, Lib.hid fun m h hm => absurd hm (Nat.not_lt_zero m)⟩
    case round =>
      obtain ⟨k, hk, rfl, hbel, HJ⟩ := hrel
      have q' := wcell6 (HS.out.gm.blk.below hbel hgl)
      rw [HCN.out] at q'
      by_cases hlt : k < n
      · as_aux_lemma =>
        obtain ⟨b, off, c', A1, m1, c1, row, hv, -, -, hb, -, he, hri, qc⟩ := (HR.out.later hbel).at_ (i := k) (by rw [HN.out]; exact hlt)
        injection hv with e1 _ e2
        subst e1
        subst e2
        have hrowk : ∀ h, (rowsD l)[k]'h = row := fun h => by
          rw [rowsD_get h (by rw [HN.out]; exact hlt), he]
        have hklen : k < (rowsD l).length := by unfold rowsD; rw [List.length_map, HN.out]; exact hlt
        have HDROP := Lib.hid (show rowsErr cn (rowsD l) = if rowErr cn row = 0 then rowsErr cn ((rowsD l).drop (k + 1)) else rowErr cn row by
          rw [rowsErr_drop k (by omega) HJ.out, List.drop_eq_getElem_cons hklen, rowsErr, hrowk])
        have HROW := Lib.hid hrowk
        have HSND := Lib.hid (soundRowR_any _ (.slice A1 m1 c1) row wr hri (HT.out.later hbel))
        have HRI := Lib.hid hri
        clear he hri q hrowk
        go_wp2_with fail
        refine HSND.out.mono ?_
        rintro e w2 ⟨rfl, hb2⟩
        have hbel2 := hbel.trans (hb2.mono hbel.size)
        have q2 := wcell6 (HS.out.gm.blk.below hbel2 hgl)
        rw [HCN.out] at q2
        cases hsr : rowSound row with
        | false =>
          have HE := Lib.hid (show rowErr cn row = 1 by unfold rowErr; rw [if_pos hsr])
          have HE2 := Lib.hid (show rowsErr D.column (rowsD l) = 1 by rw [HCN.out, HDROP.out, if_neg (by rw [HE.out]; decide), HE.out])
          clear hsr q'
          go_wp2_with fail
          go_ret2
          exact ⟨Tab.Ext.of_below hbel2, .inr (.inl ⟨HIN.out, by rw [HE2.out]; decide, by rw [HE2.out]; rfl, HS.out.later hbel2⟩)⟩
        | true =>
          have hri2 := HRI.out.later hb2
          obtain ⟨A9, c9, iA, iC, hv9, -, -, hs9, hw9, -⟩ := hri2.shape
          injection hv9 with e1 e2 e3
          subst e1
          subst e2
          subst e3
          by_cases hcl : (row.length : Int) ≤ cn
          · have HE := Lib.hid (show rowErr cn row = 2 by unfold rowErr; rw [if_neg (by rw [hsr]; decide), if_pos (.inl hcl)])
            have HE2 := Lib.hid (show rowsErr D.column (rowsD l) = 2 by rw [HCN.out, HDROP.out, if_neg (by rw [HE.out]; decide), HE.out])
            have hd1 : decide ((row.length : Int) ≤ (cn : Int)) = true := by simp; omega
            have hd2 : decide (row.length ≤ cn) = true := by simp; omega
            clear hsr q' hcl
            go_wp2_with fail
            go_ret2
            exact ⟨Tab.Ext.of_below hbel2, .inr (.inl ⟨HIN.out, by rw [HE2.out]; decide, by rw [HE2.out]; rfl, HS.out.later hbel2⟩)⟩
          · have hcl' : cn < row.length := by omega
            have hd1 : decide ((row.length : Int) ≤ (cn : Int)) = false := by simp; omega
            have hd2 : decide (row.length ≤ cn) = false := by simp; omega
            obtain ⟨b9, o9, rfl, -, -, hc9⟩ := hs9 (by omega)
            obtain ⟨x1, x2, -, -, -⟩ := hc9 cn hcl'
            by_cases hk5 : (at_ row cn).k = 5
            · have hd3 : ((at_ row cn).k != 5) = false := by simp [hk5]
              have HE := Lib.hid (show rowErr cn row = 0 by unfold rowErr; rw [if_neg (by rw [hsr]; decide), if_neg (by rw [Int.toNat_natCast]; exact fun h => h.elim hcl (fun h => h hk5))])
              have HJ2 := Lib.hid (show ∀ m (h : m < (rowsD l).length), m < k + 1 → rowErr cn (rowsD l)[m] = 0 from fun m h hm => by
                by_cases hmk : m < k
                · exact HJ.out m h hmk
                · obtain rfl : m = k := by omega
                  rw [HROW.out]; exact HE.out)
              clear hsr q' hcl hk5 hc9 hs9 x2
              go_wp2_with fail
              go_roundw
              case rel => exact ⟨k + 1, hlt, by go_num, hbel2, HJ2⟩
              case measure => simp [intOf] <;> omega
            · have hd3 : ((at_ row cn).k != 5) = true := by simp [hk5]
              have HE := Lib.hid (show rowErr cn row = 2 by unfold rowErr; rw [if_neg (by rw [hsr]; decide), if_pos (by rw [Int.toNat_natCast]; exact .inr hk5)])
              have HE2 := Lib.hid (show rowsErr D.column (rowsD l) = 2 by rw [HCN.out, HDROP.out, if_neg (by rw [HE.out]; decide), HE.out])
              clear hsr q' hcl hk5 hc9 hs9 x2
              go_wp2_with fail
              go_ret2
              exact ⟨Tab.Ext.of_below hbel2, .inr (.inl ⟨HIN.out, by rw [HE2.out]; decide, by rw [HE2.out]; rfl, HS.out.later hbel2⟩)⟩
      · obtain rfl : k = n := by omega
        have HERR := Lib.hid (show rowsErr D.column (rowsD l) = 0 by
          have hll : (rowsD l).length = k := by unfold rowsD; rw [List.length_map, HN.out]
          rw [HCN.out, rowsErr_drop k (by omega) HJ.out, List.drop_eq_nil_of_le (by omega)]; rfl)
        have HSW := Lib.hid (HS.out.later hbel)
        have hgm := HSW.out.gm
        rw [← HNS.out] at hgm hi
        obtain ⟨m, b0, hg, c1, c2⟩ := hgm.at_ (i := i) hi
        have fz := hgm.iown.frozenAt i
        have hid := hgm.setIdleAt hg false
        rw [HNS.out] at hid hgm hi
        have HADV := Lib.hid (move_any _ base g _ _ _ vw hid)
        have hbiw : bi < wr.heap.size := Nat.lt_of_lt_of_le hbi hbel.size
        clear q hgm hid
        go_wp2_with fail
        refine HADV.out.mono ?_
        rintro e w2 ⟨rfl, o1, o2⟩
        have hBEG : offBegin D i = advD (setSrc D i (m, false)) := by unfold offBegin; rw [hg]; rfl
        have hext1 : Tab.Ext (fun b => b = g ∨ Value.ownBlock (.slice (some ⟨bm, 0, none⟩) ns cm) = some b ∨ Value.ownBlock (.slice (some ⟨bi, 0, none⟩) ns ci) = some b) wr w2 := ((Tab.Ext.refl _ wr).setCell (p := ⟨bi, i, none⟩) (.inl (.inr (.inr rfl))) (.bool false)).trans (o2.mono fun b _ hb => .inl hb)
        have HS2 := Lib.hid (show RGateS w2 base g (offBegin D i) (.slice (some ⟨bm, 0, none⟩) ns cm) (.slice (some ⟨bi, 0, none⟩) ns ci) vw ws (.slice none 0 0) [] by rw [hBEG]; exact HSW.out.gate o1 (by rw [advD_column]; rfl) hext1)
        have HX2 := Lib.hid (show Tab.Ext (fun b => base ≤ b) w w2 from (Tab.Ext.of_below hbel).trans (hext1.mono fun b _ hb => (HSW.out.mut b (hb.elim .inl fun e => e.elim (fun e => .inr (.inl e)) fun e => .inr (.inr (.inl e)))).1))
        have HFR2 := Lib.hid (show FrR w w2 g (.slice (some ⟨bm, 0, none⟩) ns cm) (.slice (some ⟨bi, 0, none⟩) ns ci) vw vw (.slice none 0 0) from FrR.gate ⟨fun b hb _ => hbel.block b hb, fun b e => by simp [Value.ownBlock] at e, fun b e => .inl e⟩ hbel.size hext1)
        have hsz2 : w.heap.size ≤ w2.heap.size := HX2.out.size
        clear o1 o2 hBEG hext1 HADV fz c1 c2 hg HSW q' hbel hbiw
        go_wp2_with fail
        obtain ⟨n, rfl⟩ : ∃ n, n = k := ⟨_, rfl⟩
        go_loopw [10, 12, 13, 61] (fun a _ _ j wr => ∃ (k : Nat) (vw' vl : Value) (ws' ls : List RE), k ≤ n ∧ j = .int .i64 k ∧ vl = a ∧ Tab.Ext (fun b => base ≤ b) w wr ∧
          Hid (rowsD ls = (offAll i (offBegin D i, [], []) ((rowsD l).take k)).2.1 ∧ rowsD ws' = (offAll i (offBegin D i, [], []) ((rowsD l).take k)).2.2 ∧ RGateS wr base g (offAll i (offBegin D i, [], []) ((rowsD l).take k)).1 (.slice (some ⟨bm, 0, none⟩) ns cm) (.slice (some ⟨bi, 0, none⟩) ns ci) vw' (ws ++ ws') vl ls) ∧ Hid (FrR w wr g (.slice (some ⟨bm, 0, none⟩) ns cm) (.slice (some ⟨bi, 0, none⟩) ns ci) vw vw' vl)) (fun _ _ _ j _ => n - (intOf j).toNat)
        case atStart => exact ⟨0, vw, _, [], [], Nat.zero_le _, rfl, rfl, HX2.out, Lib.hid ⟨rfl, rfl, by rw [List.take_zero, List.append_nil]; exact HS2.out⟩, HFR2⟩
        case round =>
          obtain ⟨k, vw', vl, ws', ls, hk, rfl, rfl, hext, HST, HFR⟩ := hrel
          have hwl : ws'.length ≤ k ∧ ls.length ≤ k := by
            have h1 := offAll_len i ((rowsD l).take k) (offBegin D i, [], [])
            have h2 := congrArg List.length HST.out.1
            have h3 := congrArg List.length HST.out.2.1
            rw [rowsD_len] at h2 h3
            have h4 : ((rowsD l).take k).length ≤ k := List.length_take_le _ _
            simp only [List.length_nil, Nat.zero_add] at h1
            omega
          have hcol := offAll_column i ((rowsD l).take k) (offBegin D i, [], [])
          simp only at hcol
          rw [(offBegin_column D i).1, (offBegin_column D i).2, HCN.out] at hcol
          by_cases hlt : k < n
          · have HTK := Lib.hid (show offAll i (offBegin D i, [], []) ((rowsD l).take (k + 1)) = offStep i (offAll i (offBegin D i, [], []) ((rowsD l).take k)) (dat l k).row by rw [rowsD_take (by rw [HN.out]; exact hlt), offAll_snoc])
            obtain ⟨D1, lt, wt, hst⟩ : ∃ D1 lt wt, offAll i (offBegin D i, [], []) ((rowsD l).take k) = (D1, lt, wt) := ⟨_, _, _, rfl⟩
            rw [hst] at HST HTK hcol
            simp only at hcol
            have HS1 := Lib.hid HST.out.2.2
            have HC1 := Lib.hid hcol
            have hrr := HR.out.ext (M := fun b => base ≤ b) hext (fun b hb h => by omega) (fun b hb h => by omega)
            obtain ⟨b, off, c', A1, m1, c1, row, hv, -, -, hb, -, he, hri, qc⟩ := hrr.at_ (i := k) (by rw [HN.out]; exact hlt)
            injection hv with e1 _ e2
            subst e1
            subst e2
            rw [he] at HTK
            have hmr : MomRow cn row := rowErr_mom (by omega) (by
              have := HJ.out k (by rw [rowsD_len, HN.out]; exact hlt) hlt
              rw [rowsD_get _ (by rw [HN.out]; exact hlt), he] at this
              exact this)
            obtain ⟨hm1, hm2, hm3⟩ := hmr
            rw [Int.toNat_natCast] at hm1 hm2 hm3
            obtain ⟨A9, c9, iA, iC, hv9, -, -, hs9, -, -⟩ := hri.shape
            injection hv9 with e1 e2 e3
            subst e1
            subst e2
            subst e3
            obtain ⟨b9, o9, rfl, -, hb9, hc9⟩ := hs9 (by omega)
            obtain ⟨x1, x2, -, -, -⟩ := hc9 cn hm1
            have HAT := Lib.hid (show atOf D1.column row = (at_ row cn).n by unfold atOf; rw [HC1.out.1, Int.toNat_natCast])
            have HMR := Lib.hid (show MomRow D1.column row from by rw [HC1.out.1]; exact ⟨by rw [Int.toNat_natCast]; exact hm1, by rw [Int.toNat_natCast]; exact hm2, by rw [Int.toNat_natCast]; exact hm3⟩)
            have HRI := Lib.hid hri
            unfold Mom at hm3
            generalize hat : (at_ row cn).n = at1 at *
            have qg := wcell6 HS1.out.gm.blk
            rw [HC1.out.1, HC1.out.2] at qg
            have hgl1 := HS1.out.gm.blk.lt
            have hbs : base ≤ wr.heap.size := by have := hext.size; omega
            have hdelb : 0 ≤ D.delay ∧ D.delay ≤ 4294967296 := ⟨HS.out.gm.ok.del, HS.out.gm.ok.delb⟩
            have hmkb := HS1.out.gm.ok.mkb
            unfold Mom at hmkb
            clear hst hrr he hri hat hcol hm2 hs9 hc9
            by_cases hlate : at1 < D1.mark
            · as_aux_lemma =>
              have hd1 : decide (at1 < D1.mark) = true := by simp [hlate]
              have HSTEP := Lib.hid (show offStep i (D1, lt, wt) row = (D1, lt ++ [row], wt) by unfold offStep; rw [if_pos (by rw [HAT.out]; exact hlate)])
              clear hlate
              go_wp2_with (at_builtin; refine append_own2 wr rfl (.tmp 79) (.tmp 81) 22 rfl base 31 underR infoR rfl (by decide) _ _ _ [.slice (some ⟨b9, o9, none⟩) row.length c1] rfl HS1.out.lown rfl rfl (by simp [Value.oneCell']) (by omega) (by decide) (by omega) ?_)
              intro v' w4 hown' hb4 hkept
              have HS4 := Lib.hid (HS1.out.addLate (e := RE.mk (.slice (some ⟨b9, o9, none⟩) row.length c1) row) hown' hkept hb4 HRI.out)
              have hext4 : Tab.Ext (fun b => base ≤ b) w w4 := hext.trans ⟨hb4.os, hb4.tape, hb4.output, hkept.size, fun b hb h => hb4.block b (by omega)⟩
              have HFR4 := Lib.hid (HFR.out.late hext.size hkept)
              clear hown' hb4 hkept
              go_wp2_with fail
              go_roundw
              case rel => exact ⟨k + 1, vw', _, ws', ls ++ [RE.mk (.slice (some ⟨b9, o9, none⟩) row.length c1) row], hlt, by go_num, rfl, hext4, Lib.hid (by
                rw [HTK.out, HSTEP.out]
                exact ⟨by simp only [rowsD, List.map_append]; rw [show List.map RE.row ls = lt from HST.out.1]; rfl, HST.out.2.1, HS4.out⟩), HFR4⟩
              case measure => simp [intOf] <;> omega
            · as_aux_lemma =>
              have hd1 : decide (at1 < D1.mark) = false := by simp; omega
              obtain ⟨m9, b9', hsi, _, _⟩ := HS1.out.gm.atN hi
              have HSI := Lib.hid hsi
              have HSTEP0 := Lib.hid (show offStep i (D1, lt, wt) row = (advD (setSrc D1 i (max m9 (at1 - D.delay), b9')), lt, wt ++ [row]) by
                unfold offStep
                rw [if_neg (by rw [HAT.out]; exact hlate)]
                simp only [HAT.out, HC1.out.2]
                rw [hsi]
                rfl)
              clear qg
              obtain ⟨_, Aw, cw, ew, gw1, gw2, _⟩ := SL.of_own HS1.out.wown
              subst ew
              obtain ⟨N, hN⟩ : ∃ N, (ws ++ ws').length = N := ⟨_, rfl⟩
              rw [hN] at HS1 gw1 HFR
              have hN30 : N < 1073741823 := by rw [← hN, List.length_append]; omega
              have HNN := Lib.hid hN
              clear hN
              have qg := wcell6 HS1.out.gm.blk
              rw [HC1.out.1, HC1.out.2] at qg
              have fg := HS1.out.gm.blk.frozen 5
              have hm9 := HS1.out.gm.ok.srcs (m9, b9') (List.mem_of_getElem? hsi)
              have HM9 := Lib.hid hm9
              clear hsi hm9 hlate
              go_wp2_with (at_builtin; refine append_own2 wr rfl (.tmp 87) (.tmp 89) 22 rfl base 31 underR infoR rfl (by decide) _ _ _ [.slice (some ⟨b9, o9, none⟩) row.length c1] rfl HS1.out.wown rfl rfl (by simp [Value.oneCell']) (by rw [HNN.out]; omega) (by decide) (by omega) ?_)
              intro v' w4 hown0 hb4 hkept
              obtain ⟨A5, n5, c5, ev⟩ := own_slice hown0
              subst ev
              have hown' : w4.ownsRow base 31 1 (.slice A5 n5 c5) ((ws ++ ws').length + 1) ((ws ++ ws').map RE.rv ++ [.slice (some ⟨b9, o9, none⟩) row.length c1]) := by
                rw [List.length_append, List.map_append]
                simpa [List.append_assoc] using hown0
              clear hown0
              have hbk : Blk w4 g 111 [.int .i64 D1.column, .int .i64 D1.delay, .slice (some ⟨bm, 0, none⟩) ns cm, .slice (some ⟨bi, 0, none⟩) ns ci, .int .i64 D1.mark, .slice Aw N cw] := (hkept.block g HS1.out.gm.blk.lt HS1.out.ne.1).1.trans HS1.out.gm.blk
              have HS5 := Lib.hid (HS1.out.addWait (e := RE.mk (.slice (some ⟨b9, o9, none⟩) row.length c1) row) hown' hkept hb4 HRI.out HMR.out)
              have q4 := wcell6 hbk
              have f4 := hbk.frozen 5
              have hgl4 := hbk.lt
              have HX5 := Lib.hid (show Tab.Ext (fun b => base ≤ b) w (w4.setCell ⟨g, 5, none⟩ (.slice A5 n5 c5)) from (hext.trans ⟨hb4.os, hb4.tape, hb4.output, hkept.size, fun b hb h => hb4.block b (by omega)⟩).setCell (p := ⟨g, 5, none⟩) (.inl HS.out.gm.bg) _)
              have HFR5 := Lib.hid (HFR.out.wait hext.size hkept (.slice A5 n5 c5))
              clear hown' hb4 hkept hbk
              go_wp2_with fail
              generalize hW5 : w4.setCell ⟨g, 5, none⟩ (.slice A5 n5 c5) = W5 at *
              clear hW5 q4 f4 qg fg
              obtain ⟨m9', b9'', hsi2, y1, y2⟩ := HS5.out.gm.atN hi
              have heq : (m9', b9'') = (m9, b9') := Option.some.inj (hsi2.symm.trans HSI.out)
              injection heq with heq1 heq2
              subst heq1
              subst heq2
              have z5 := wcell6 HS5.out.gm.blk
              rw [HC1.out.1, HC1.out.2] at z5
              have hmo5 := HS5.out.gm.mown
              rw [HS5.out.gm.len] at hmo5
              have fz5 := hmo5.frozenAt i
              clear hmo5
              have hbm5 : bm < W5.heap.size := (HS5.out.gm.mown.lt bm rfl).2
              clear hsi2
              have hwr := IntWalk.i64_in (at1 - D.delay) (by omega)
              have HMM := HM9.out
              unfold Mom at HMM
              refine Tab.wp_region_tabC (fun _ _ => True) (fun _ w_' => w_' = W5.drew) (by kernel_rfl) (by kernel_rfl) (fun _ => trivial) (fun _ _ _ _ _ => trivial) rfl ?_
              iterate 14 (first | (refine Tab.tab_moveE _ rfl ((fun _ _ h => h)) (.inl rfl) rfl rfl (fun _ => trivial) ?_; apply Exists.intro; refine And.intro ?_ ?_; focus (simp [Tab.Env.ev, Tab.Env.get]; rfl)) | (refine Tab.tab_moveE _ rfl ((fun _ _ h => h)) (.inr rfl) rfl rfl (fun _ => trivial) ?_; apply Exists.intro; refine And.intro ?_ ?_; focus (simp [Tab.Env.ev, Tab.Env.get]; rfl)) | refine Tab.tab_skip rfl ((fun _ _ h => h)) rfl ?_ | (refine Tab.tab_repE rfl ((fun _ _ h => h)) rfl (fun _ _ h => by cases h) rfl (fun _ => trivial) ?_; apply Exists.intro; refine And.intro (fun l w' _ _ hw => ?_) ?_; focus (go_simp; rfl)) | (refine Tab.tab_repE rfl ((fun _ _ h => h)) rfl (fun _ _ h => by cases h) rfl (fun _ => trivial) ?_; apply Exists.intro; refine And.intro (fun l w' hs hc hw => ?_) ?_; focus ((subst hc; go_simp; rfl))))
              intro l_ a_ w_ hall_ hcl_ _ hsat_
              have hw_ : w_ = W5.drew := hcl_
              subst hw_
              clear hcl_ hall_
              refine Tab.fin_of_sat rfl ?_ hsat_
              simp only [Tab.fin, Act.put, List.setIfInBounds_toArray, List.set_cons_succ, List.set_cons_zero]
              by_cases hgt : m9' < at1 - D.delay
              · have hdg : decide (m9' < at1 - D.delay) = true := by simp [hgt]
                have HSTEP := Lib.hid (show offStep i (D1, lt, wt) row = (advD (setSrc D1 i (at1 - D.delay, b9'')), lt, wt ++ [row]) by rw [HSTEP0.out]; congr 4; omega)
                have hmm : Mom (at1 - D.delay) := by unfold Mom; omega
                have GMX := (HS5.out.gm.keep (w' := W5.drew) rfl (fun _ _ => rfl) (fun _ _ => rfl)).setMarkN HSI.out (at1 - D.delay) hmm
                have HXM : Tab.Ext (fun b => b = g ∨ Value.ownBlock (.slice (some ⟨bm, 0, none⟩) ns cm) = some b ∨ Value.ownBlock (.slice (some ⟨bi, 0, none⟩) ns ci) = some b) W5 (W5.drew.setCell ⟨bm, i, none⟩ (.int .i64 (at1 - D.delay))) := (Tab.Ext.refl _ W5).drew.setCell (p := ⟨bm, i, none⟩) (.inl (.inr (.inl rfl))) _
                have GMXH := Lib.hid GMX
                have HXMH := Lib.hid HXM
                rw [hdg]
                clear hdg hgt GMX HXM
                go_wp2_with fail
                refine Tab.wp_region_tabC (fun _ _ => True) (Tab.stageC 12 fun b_ w_' => w_' = if b_ = true then (W5.drew.setCell ⟨bm, i, none⟩ (.int .i64 (at1 - D.delay))).drew else W5.drew.drew) (by kernel_rfl) (by kernel_rfl) (fun _ => trivial) (fun _ _ _ _ _ => trivial) (Tab.stageC_start rfl) ?_
                iterate 12 (first | (refine Tab.tab_moveE _ rfl (Tab.silent_at (by decide)) (.inl rfl) rfl rfl (fun _ => trivial) ?_; apply Exists.intro; refine And.intro ?_ ?_; focus (simp [Tab.Env.ev, Tab.Env.get]; rfl)) | (refine Tab.tab_moveE _ rfl (Tab.silent_at (by decide)) (.inr rfl) rfl rfl (fun _ => trivial) ?_; apply Exists.intro; refine And.intro ?_ ?_; focus (simp [Tab.Env.ev, Tab.Env.get]; rfl)) | refine Tab.tab_skip rfl (Tab.silent_at (by decide)) rfl ?_ | (refine Tab.tab_repE rfl (Tab.silent_at (by decide)) rfl (fun _ _ h => by cases h) rfl (fun _ => trivial) ?_; apply Exists.intro; refine And.intro (fun l w' _ _ hw => ?_) ?_; focus (go_simp; rfl)) | (refine Tab.tab_repE rfl (Tab.silent_at (by decide)) rfl (fun _ _ h => by cases h) rfl (fun _ => trivial) ?_; apply Exists.intro; refine And.intro (fun l w' hs hc hw => ?_) ?_; focus (first | (go_simp; rfl) | (have h := Tab.stageC_before hc hs (by kernel_rfl); simp only [Bool.false_eq_true, if_false] at h; subst h; skip; go_simp; rfl))))
                (refine Tab.tab_act rfl rfl (fun _ _ h => by cases h) rfl (fun l w' hsz hs hc hw => ?_) ?_; focus (have h := Tab.stageC_at hc hs; simp only [Bool.false_eq_true, if_false] at h; subst h; refine ⟨(W5.drew.setCell ⟨bm, i, none⟩ (.int .i64 (at1 - D.delay))).drew, ?_, trivial, Tab.stageC_done (if_pos rfl).symm (by rw [hsz]; decide)⟩; skip; go_simp; done))
                intro l_ a_ w_ hall_ hcl_ _ hsat_
                have hw_ := Tab.stageC_end hcl_ hall_ (by decide)
                simp only [if_true] at hw_
                subst hw_
                refine Tab.fin_of_sat rfl ?_ hsat_
                simp only [Tab.fin, Act.put, List.setIfInBounds_toArray, List.set_cons_succ, List.set_cons_zero]
                go_wp2_with fail
                refine (move_any _ base g _ _ _ _ (GMXH.out.keep (w' := (W5.drew.setCell ⟨bm, i, none⟩ (.int .i64 (at1 - D.delay))).drew) rfl (fun _ _ => rfl) (fun _ _ => rfl))).mono ?_
                rintro e w7 ⟨rfl, o1, o2⟩
                have HX7 := HXMH.out.drew.trans (o2.mono fun b _ hb => .inl hb)
                have HS7 := Lib.hid (HS5.out.gate o1 (by rw [advD_column]; rfl) HX7)
                have hext7 := HX5.out.trans (HX7.mono fun b _ hb => (HS5.out.mut b (hb.elim .inl fun e => e.elim (fun e => .inr (.inl e)) fun e => .inr (.inr (.inl e)))).1)
                have HFR7 := Lib.hid (HFR5.out.gate HX5.out.size HX7)
                clear o1 o2 HX7 y1 y2 z5 fz5
                go_wp2_with fail
                go_roundw
                case rel => exact ⟨k + 1, _, _, ws' ++ [RE.mk (.slice (some ⟨b9, o9, none⟩) row.length c1) row], ls, hlt, by go_num, rfl, hext7, Lib.hid (by
                  rw [HTK.out, HSTEP.out, ← List.append_assoc]
                  exact ⟨HST.out.1, by simp only [rowsD, List.map_append]; rw [show List.map RE.row ws' = wt from HST.out.2.1]; rfl, HS7.out⟩), HFR7⟩
                case measure => simp [intOf] <;> omega
              · have hdg : decide (m9' < at1 - D.delay) = false := by simp; omega
                have HSTEP := Lib.hid (show offStep i (D1, lt, wt) row = (advD (setSrc D1 i (m9', b9'')), lt, wt ++ [row]) by rw [HSTEP0.out]; congr 4; omega)
                have hss : setSrc D1 i (m9', b9'') = D1 := by unfold setSrc; rw [list_set_self HSI.out]
                have GMXH := Lib.hid (show RGateM W5.drew base g (setSrc D1 i (m9', b9'')) (.slice (some ⟨bm, 0, none⟩) ns cm) (.slice (some ⟨bi, 0, none⟩) ns ci) _ by rw [hss]; exact HS5.out.gm.keep (w' := W5.drew) rfl (fun _ _ => rfl) (fun _ _ => rfl))
                have HXMH := Lib.hid (show Tab.Ext (fun b => b = g ∨ Value.ownBlock (.slice (some ⟨bm, 0, none⟩) ns cm) = some b ∨ Value.ownBlock (.slice (some ⟨bi, 0, none⟩) ns ci) = some b) W5 W5.drew from (Tab.Ext.refl _ W5).drew)
                rw [hdg]
                clear hdg hgt hss
                go_wp2_with fail
                refine (move_any _ base g _ _ _ _ GMXH.out).mono ?_
                rintro e w7 ⟨rfl, o1, o2⟩
                have HX7 := HXMH.out.trans (o2.mono fun b _ hb => .inl hb)
                have HS7 := Lib.hid (HS5.out.gate o1 (by rw [advD_column]; rfl) HX7)
                have hext7 := HX5.out.trans (HX7.mono fun b _ hb => (HS5.out.mut b (hb.elim .inl fun e => e.elim (fun e => .inr (.inl e)) fun e => .inr (.inr (.inl e)))).1)
                have HFR7 := Lib.hid (HFR5.out.gate HX5.out.size HX7)
                clear o1 o2 HX7 y1 y2 z5 fz5
                go_wp2_with fail
                go_roundw
                case rel => exact ⟨k + 1, _, _, ws' ++ [RE.mk (.slice (some ⟨b9, o9, none⟩) row.length c1) row], ls, hlt, by go_num, rfl, hext7, Lib.hid (by
                  rw [HTK.out, HSTEP.out, ← List.append_assoc]
                  exact ⟨HST.out.1, by simp only [rowsD, List.map_append]; rw [show List.map RE.row ws' = wt from HST.out.2.1]; rfl, HS7.out⟩), HFR7⟩
                case measure => simp [intOf] <;> omega
          · as_aux_lemma =>
            obtain rfl : k = n := by omega
            have hst := HST.out
            have htk : (rowsD l).take k = rowsD l := List.take_of_length_le (by rw [rowsD_len, HN.out]; omega)
            rw [htk] at hst
            obtain ⟨_, Al, cl, e, g1, g2, _⟩ := SL.of_own hst.2.2.lown
            subst e
            go_wp2_with fail
            go_ret2
            refine ⟨⟨hext.os, hext.tape, hext.output, hext.size, HFR.out.blk⟩, .inr (.inr ⟨HIN.out, HERR.out, _, ls, vw', ws', rfl, ⟨(SL.of_ownB hst.2.2.lown).mono (fun b hb _ => HFR.out.nl b hb), fun e he => hst.2.2.rows e (.inr he)⟩, by rw [Int.toNat_natCast]; exact hst.1, by rw [Int.toNat_natCast]; exact hst.2.2.drop, by rw [Int.toNat_natCast]; exact hst.2.1, HFR.out.nw⟩)⟩
end Go.Proofs.YthejmnmkbldacaaGreatDoor

namespace Go.Proofs.YthejmnmkbldacaaGreatDoor
open Go.RowKit
attribute [local go_sem] Tab.Env.ev Tab.Env.get

theorem tot_row (x : DE) : ∀ l : List DE, tot cmpD DE.n x l = totR x.row l
  | [] => rfl
  | d :: l => by
    have ih := tot_row x l
    unfold totR at ih ⊢
    simp only [tot]
    rw [ih]
    rfl
theorem timesR_bound (t : Int) : -2199023255552 ≤ timesR t ∧ timesR t ≤ 2199023255552 := by
  unfold timesR
  split <;> omega
theorem timesB_InT (t : Int) : timesB t = true ↔ InT t := by
  unfold timesB InT
  exact decide_eq_true_iff
theorem refOut_snoc (sign : Int) (l es : List DE) (x : DE) : refOut cmpD DE.n setN sign l (es ++ [x]) = if sign * timesR (totR x.row l) = 0 then refOut cmpD DE.n setN sign l es else refOut cmpD DE.n setN sign l es ++ [setN x (sign * timesR (totR x.row l))] := by
  unfold refOut
  rw [List.map_append, List.filter_append, List.map_singleton, tot_row x l]
  split
  · rename_i h
    have : (setN x (sign * timesR (totR x.row l))).n = 0 := h
    rw [List.filter_cons_of_neg (by simp [this])]
    simp
  · rename_i h
    have : (setN x (sign * timesR (totR x.row l))).n ≠ 0 := h
    rw [List.filter_cons_of_pos (by simp [this])]
    simp

theorem own_base {w : World} {b b' : Nat} (h : b ≤ b') {e size n : Nat} {v : Value} {xs : List Value} (ho : w.ownsRow b' e size v n xs) : w.ownsRow b e size v n xs :=
  ⟨ho.1, ho.2.elim .inl fun ⟨g, cap, cur, h1, h2, h3⟩ => .inr ⟨g, cap, cur, h1, Nat.le_trans h h2, h3⟩⟩
theorem OwnDs.base {w : World} {b b' : Nat} (h : b ≤ b') {F : Nat → Prop} {v : Value} {es : List DE} (ho : OwnDs w b' F v es) : OwnDs w b F v es := ⟨own_base h ho.own, ho.good⟩
/-- what the reference's canonical answers -/
def RCanonPost (F' : Nat → Prop) (sign : Int) (l : List DE) (w : World) (e : Ending) (w' : World) : Prop :=
  Below w.heap.size w w' ∧ ∃ es, DiffI cmpD setN l es ∧
    ((e = .returned (.tuple #[.slice none 0 0, .bool false]) ∧ ∃ x, x ∈ es ∧ ¬ InT (sign * timesR (tot cmpD DE.n x l))) ∨
     (∃ v', e = .returned (.tuple #[v', .bool true]) ∧ (∀ x, x ∈ es → InT (sign * timesR (tot cmpD DE.n x l))) ∧ OwnDs w' w.heap.size (fun b => F' b ∧ b < w.heap.size) v' (refOut cmpD DE.n setN sign l es)))

set_option maxHeartbeats 2000000 in
theorem canonicalR_any (sign : Int) (hsign : sign = 1 ∨ sign = -1) (F F' : Nat → Prop) (v : Value) (l : List DE) (w : World) (h : RD w F F' v l) (hn : l.length < 4194304) :
    Calls Tryz.prog 57 #[v, .int .i64 sign] w (RCanonPost F' sign l w) := by
  obtain ⟨A, c, rfl, hc, hm⟩ := rd_shape h
  have HR := Lib.hid h
  have HSG := Lib.hid hsign
  have HDI := Lib.hid (different_any F F' _ l w h (by omega))
  clear h hsign
  unfold maxLen at hm
  obtain ⟨n, hln⟩ : ∃ n, l.length = n := ⟨_, rfl⟩
  rw [hln] at hc hn HDI HR ⊢
  have HN := Lib.hid hln
  clear hln
  go_enter Tryz.func57, Tryz.ntmps57
  go_wp2_with fail
  refine HDI.out.mono ?_
  rintro e w1 ⟨v1, es, rfl, ho1, hdi, hel, hb1⟩
  have HO1 := Lib.hid ho1
  have HD := Lib.hid hdi
  have HB1 := Lib.hid hb1
  rw [HN.out] at hel
  obtain ⟨_, Ae, ce, ee, hce1, hce2, _⟩ := ho1.rr.sl
  subst ee
  unfold maxLen at hce2
  obtain ⟨m, hmm⟩ : ∃ m, es.length = m := ⟨_, rfl⟩
  have HM := Lib.hid hmm
  rw [hmm] at hce1 hel HO1 ⊢
  clear ho1 hdi hb1 hmm HDI
  have hz1 := HB1.out.size
  go_wp2_with fail
  go_loopw [4, 5, 6, 8, 9, 13] (fun _ _ s _ _ i wr => ∃ (k : Nat) (v : Value), k ≤ m ∧ v = s ∧ i = .int .i64 k ∧ OwnDs wr w1.heap.size (fun b => F' b ∧ b < w.heap.size) v (refOut cmpD DE.n setN sign l ((es.map REd).take k)) ∧ Hid (∀ e, e ∈ es.take k → InT (sign * timesR (totR e.row l))) ∧ Below w1.heap.size w1 wr) (fun _ _ _ _ _ i _ => m - (intOf i).toNat)
  case atStart => exact ⟨0, _, Nat.zero_le _, rfl, rfl, OwnDs.nil _ _ _, Lib.hid (fun e he => by simp at he), Below.refl _ _⟩
  case round =>
    obtain ⟨k, v, hk, rfl, rfl, ho, HI, hbel⟩ := hrel
    have HB := Lib.hid (HB1.out.trans (hbel.mono hz1))
    have HO := Lib.hid ho
    have hfl : (refOut cmpD DE.n setN sign l ((es.map REd).take k)).length ≤ k := Nat.le_trans (List.length_filter_le _ _) (by rw [List.length_map, List.length_take]; omega)
    clear ho
    have hzr := HB.out.size
    by_cases hlt : k < m
    · have hke : k < es.length := by rw [HM.out]; exact hlt
      obtain ⟨be, oe, ce', Ae', me', ce1', row, hve, -, -, hbe, -, hee, hre, xe⟩ := (HO1.out.later hbel).rr.at_ (i := k) hke
      injection hve with e1 e0 e2
      subst e1
      subst e2
      have HT := Lib.hid (show es.take (k + 1) = es.take k ++ [⟨.slice Ae' me' ce1', row⟩] by
        rw [List.take_succ_eq_append_getElem hke, ← dat_eq hke, hee])
      have HCALL := Lib.hid (times9_any F F' (fun b => F' b ∧ b < w.heap.size) (.slice A n c) l (.slice Ae' me' ce1') row wr (HR.out.later HB.out) hre (by rw [HN.out]; exact hn))
      have HRI := Lib.hid (show RI wr (fun b => (F' b ∧ b < w.heap.size) ∧ v.ownBlock ≠ some b) (.slice Ae' me' ce1') row by
        refine hre.mono fun b hb _ => ⟨hb, fun e => ?_⟩
        have := (HO.out.own.lt b e).1
        have := hb.2
        omega)
      have htb := timesR_bound (totR row l)
      obtain ⟨tv, htv⟩ : ∃ t, timesR (totR row l) = t := ⟨_, rfl⟩
      rw [htv] at HCALL htb
      have HTV := Lib.hid htv
      have hst : -9223372036854775808 ≤ sign * tv ∧ sign * tv ≤ 9223372036854775807 ∧ -2199023255552 ≤ sign * tv ∧ sign * tv ≤ 2199023255552 := by
        rcases HSG.out with e | e <;> rw [e] <;> omega
      have hwr := IntWalk.i64_in (sign * tv) ⟨hst.1, hst.2.1⟩
      clear e0 hee hre htv
      go_wp2_with fail
      refine HCALL.out.mono ?_
      rintro e w2 ⟨rfl, hb2⟩
      have HB2 := Lib.hid (HB.out.trans (hb2.mono hzr))
      have HB3 := Lib.hid (hbel.trans (hb2.mono hbel.size))
      have HO2 := Lib.hid (HO.out.later hb2)
      have HRI2 := Lib.hid (HRI.out.later hb2)
      have hz2 := HB2.out.size
      clear hb2 HCALL hbel
      go_wp2_with fail
      refine (within9_any _ _ _ _).mono ?_
      rintro e w3 ⟨rfl, rfl⟩
      by_cases hin : InT (sign * tv)
      · have hd : decide ((-1099511627776 : Int) ≤ sign * tv ∧ sign * tv ≤ 1099511627776) = true := decide_eq_true hin
        have HI2 := Lib.hid (show ∀ e, e ∈ es.take (k + 1) → InT (sign * timesR (totR e.row l)) from fun e he => by
          rw [HT.out] at he
          rcases List.mem_append.1 he with he | he
          · exact HI.out e he
          · rw [List.mem_singleton.1 he]
            show InT (sign * timesR (totR row l))
            rw [HTV.out]
            exact hin)
        have HSN := Lib.hid (show refOut cmpD DE.n setN sign l ((es.map REd).take (k + 1)) = if sign * tv = 0 then refOut cmpD DE.n setN sign l ((es.map REd).take k) else refOut cmpD DE.n setN sign l ((es.map REd).take k) ++ [⟨.slice Ae' me' ce1', row, sign * tv⟩] by
          rw [← List.map_take, ← List.map_take, HT.out, List.map_append, List.map_singleton, refOut_snoc]
          have e : timesR (totR (REd ⟨.slice Ae' me' ce1', row⟩).row l) = tv := HTV.out
          rw [e]
          rfl)
        rw [hd]
        clear hd hin
        have HST := Lib.hid (show I64 (sign * tv) from ⟨hst.1, hst.2.1⟩)
        by_cases hz : sign * tv = 0
        · have hd : (sign * tv != 0) = false := by simp [hz]
          rw [if_pos hz] at HSN
          clear hz hst hwr
          generalize sign * tv = sv at *
          have O3 := Lib.hid (show OwnDs w2 w1.heap.size (fun b => F' b ∧ b < w.heap.size) v (refOut cmpD DE.n setN sign l ((es.map REd).take (k + 1))) by rw [HSN.out]; exact HO2.out)
          go_wp2_with fail
          go_roundw
          case rel => exact ⟨k + 1, _, hlt, rfl, by go_num, O3.out, HI2, HB3.out⟩
          case measure => simp [intOf] <;> omega
        · have hd : (sign * tv != 0) = true := by simp [hz]
          rw [if_neg hz] at HSN
          clear hz hst hwr
          generalize sign * tv = sv at *
          go_wp2_with (at_builtin; refine append_own2 w2 rfl (.tmp 27) (.tmp 31) 23 rfl w1.heap.size 86 underD infoD rfl (by decide) _ _ _ (DE.cells ⟨.slice Ae' me' ce1', row, sv⟩) rfl HO2.out.own rfl rfl (by simp [DE.cells, Value.oneCell']) (by omega) (by decide) HB3.out.size ?_)
          intro v' w4 hown' hb4 hkept
          have O3 := Lib.hid (show OwnDs w4 w1.heap.size (fun b => F' b ∧ b < w.heap.size) v' (refOut cmpD DE.n setN sign l ((es.map REd).take (k + 1))) by
            rw [HSN.out]
            exact HO2.out.add (e := DE.mk (.slice Ae' me' ce1') row sv) hown' hkept ⟨HRI2.out, HST.out⟩)
          have HB5 := Lib.hid (HB3.out.trans hb4)
          clear hown' hb4 hkept
          go_wp2_with fail
          go_roundw
          case rel => exact ⟨k + 1, _, hlt, rfl, by go_num, O3.out, HI2, HB5.out⟩
          case measure => simp [intOf] <;> omega
      · have hd : decide ((-1099511627776 : Int) ≤ sign * tv ∧ sign * tv ≤ 1099511627776) = false := decide_eq_false hin
        have HX := Lib.hid (show ∃ x, x ∈ es.map REd ∧ ¬ InT (sign * timesR (tot cmpD DE.n x l)) from ⟨_, List.mem_map_of_mem (show (RE.mk (.slice Ae' me' ce1') row) ∈ es by
          have h1 : (RE.mk (.slice Ae' me' ce1') row) ∈ es.take (k + 1) := by rw [HT.out]; simp
          exact List.mem_of_mem_take h1), by
          rw [tot_row]
          show ¬ InT (sign * timesR (totR row l))
          rw [HTV.out]
          exact hin⟩)
        rw [hd]
        clear hd hin hst
        go_wp2_with fail
        go_ret2
        exact ⟨HB2.out, _, HD.out, .inl ⟨rfl, HX.out⟩⟩
    · obtain rfl : k = m := by omega
      have htk : es.take k = es := List.take_of_length_le (by rw [HM.out]; omega)
      have htk2 : (es.map REd).take k = es.map REd := List.take_of_length_le (by rw [List.length_map, HM.out]; omega)
      rw [htk] at HI
      rw [htk2] at HO
      go_wp2_with fail
      go_ret2
      exact ⟨HB.out, _, HD.out, .inr ⟨_, rfl, fun x hx => by
        obtain ⟨e, he, rfl⟩ := List.mem_map.1 hx
        rw [tot_row]
        exact HI.out e he, HO.out.base hz1⟩⟩
end Go.Proofs.YthejmnmkbldacaaGreatDoor
