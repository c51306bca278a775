/-
  What is proved: what Release makes of a gate. Conditions: fewer than 2^30 rows wait.
  What is proved: what the reference's Release leaves. Conditions: fewer than 2^22 rows wait.
  What is proved: what reads as a list of values, of rows, of operations of a gate lies as these texts say. Conditions: none.
-/
import Derived.Test.YthejmnmkbldacaaGreatDoorGm25
import Derived.Test.YthejmnmkbldacaaGreatDoorGm18
import Derived.BigQuiet
import Derived.Test.YthejmnmkbldacaaGreatDoorGm28
import Derived.Test.YthejmnmkbldacaaGreatDoorGm14
import Derived.Test.YthejmnmkbldacaaGreatDoorGm13
import Derived.Test.YthejmnmkbldacaaGreatDoorRows
import Derived.Deep.Slices
import Derived.Deep.Strs
import Derived.Carry
set_option linter.all false
namespace Go.Proofs.YthejmnmkbldacaaGreatDoor
open Go.RowKit
attribute [local go_sem] Tab.Env.ev Tab.Env.get

theorem own_mono {w : World} {b b' : Nat} (h : b ≤ b') {e size n : Nat} {v : Value} {xs : List Value} (ho : w.ownsRow b' e size v n xs) : w.ownsRow b e size v n xs :=
  ⟨ho.1, ho.2.elim .inl fun ⟨g, cap, cur, h1, h2, h3⟩ => .inr ⟨g, cap, cur, h1, Nat.le_trans h h2, h3⟩⟩
/-- rows that wait and those that a gate keeps -/
def relP (D : GateD) (e : RE) : Bool := decide (atOf D.column e.row < D.mark)
def relOut (D : GateD) (ws : List RE) : List RE := ws.filter (relP D)
def relKeep (D : GateD) (ws : List RE) : List RE := ws.filter (fun e => !relP D e)
theorem relOut_snoc (D : GateD) (ws : List RE) (e : RE) : relOut D (ws ++ [e]) = if relP D e then relOut D ws ++ [e] else relOut D ws := by
  unfold relOut
  rw [List.filter_append]
  cases h : relP D e <;> simp [h]
theorem relKeep_snoc (D : GateD) (ws : List RE) (e : RE) : relKeep D (ws ++ [e]) = if relP D e then relKeep D ws else relKeep D ws ++ [e] := by
  unfold relKeep
  rw [List.filter_append]
  cases h : relP D e <;> simp [h]
section
variable {w w' : World} {base g s cap ns : Nat} {D : GateD} {vw vr : Value} {ws rs : List RE}
/-- other rows wait -/
theorem GateS.setWait (h : GateS w base g s cap ns D vw ws (.slice none 0 0) []) (hb : Below w.heap.size w w') (hbase : base ≤ w.heap.size) (ho : w'.ownsRow w.heap.size 31 1 vr rs.length (rs.map RE.rv)) (hsub : ∀ e, e ∈ rs → e ∈ ws) :
    GateS (w'.setCell ⟨g, 4, none⟩ vr) base g s cap ns D vr rs (.slice none 0 0) [] := by
  have hgl := h.gm.blk.lt
  have hvr : vr.ownBlock ≠ some g := fun e => by
    have := (ho.lt g e).1
    omega
  refine ⟨⟨(h.gm.blk.below hb hgl).set_ 4 vr, ?_, h.gm.len, h.gm.ne, h.gm.bg, h.gm.ok⟩, ownsRow_setCell_other (own_mono hbase ho) (a := ⟨g, 4, none⟩) hvr _, World.ownsRow_nil _ _ _ _, fun _ _ => by simp [Value.ownBlock], fun e he => ?_, fun e he => h.mom e (hsub e he)⟩
  · refine ownsRow_setCell_other (own_keep h.gm.src (fun b hb' => hb.block b (h.gm.src.lt b hb').2)) (a := ⟨g, 4, none⟩) (fun e => h.gm.ne (by
      simp only [Value.ownBlock] at e
      injection e with e
      exact e.symm)) _
  · rcases he with he | he
    · refine (h.rows e (.inl (hsub e he))).keep (by simpa using hb.size) (fun b hb' hlt => ⟨(Below.heap_setCell _ _ _ _ (show b ≠ g from fun e => hb'.2 (.inl e))).trans (hb.block b hlt), hb'.1, fun hm => ?_⟩)
      rcases hm with e | e | e | e
      · exact hb'.2 (.inl e)
      · exact hb'.2 (.inr (.inl e))
      · have := (ho.lt b e).1; omega
      · simp [Value.ownBlock] at e
    · exact absurd he (by simp)
theorem GateS.rr (h : GateS w base g s cap ns D vw ws (.slice none 0 0) []) : RR w (fun b => base ≤ b) (fun b => base ≤ b ∧ ¬ Mut g s vw (.slice none 0 0) b) vw ws := ⟨SL.of_own h.wown, fun e he => h.rows e (.inl he)⟩
end
theorem dcells_absN (l : List RE) : absN DE.n (onesOf l) = l.length := by
  induction l with
  | nil => rfl
  | cons e l ih =>
    have : onesOf (e :: l) = ⟨e.rv, e.row, 1⟩ :: onesOf l := rfl
    rw [this]
    simp only [absN, ih, List.length_cons]
    omega

/-- what Release leaves -/
def RelPost (base g s cap ns : Nat) (D : GateD) (ws : List RE) (w : World) (e : Ending) (w' : World) : Prop :=
  ∃ v out vr, e = .returned v ∧ Tab.Ext (fun b => b = g) w w' ∧ GateS w' base g s cap ns D vr (relKeep D ws) (.slice none 0 0) [] ∧ RD w' (fun b => w.heap.size ≤ b) (fun _ => True) v out ∧ Canon cmpD DE.n setN (onesOf (relOut D ws)) out ∧ (∀ b, vr.ownBlock = some b → w.heap.size ≤ b)

set_option maxHeartbeats 3000000 in
set_option maxRecDepth 100000 in
theorem release_any (w : World) (base g s cap ns : Nat) (D : GateD) (vw : Value) (ws : List RE) (hS : GateS w base g s cap ns D vw ws (.slice none 0 0) []) (hbase : base ≤ w.heap.size) (hn : ws.length < 1073741824) :
    Calls Tryz.prog 24 #[.pointer (some ⟨g, 0, none⟩)] w (RelPost base g s cap ns D ws w) := by
  have HS := Lib.hid hS
  have q := wcell5 hS.gm.blk
  have hgl := hS.gm.blk.lt
  obtain ⟨_, Aw, cw, ew, gw1, gw2, _⟩ := SL.of_own hS.wown
  subst ew
  unfold maxLen at gw2
  obtain ⟨n, hln⟩ : ∃ n, ws.length = n := ⟨_, rfl⟩
  rw [hln] at gw1 hn q HS
  have HN := Lib.hid hln
  obtain ⟨cn, hcn⟩ : ∃ cn : Nat, D.column = cn := ⟨D.column.toNat, by have := hS.gm.ok.col; omega⟩
  have HCN := Lib.hid hcn
  have hcni := hS.gm.ok.coli
  have hmkb := hS.gm.ok.mkb
  unfold Mom at hmkb
  rw [hcn] at q hcni
  clear hS hln hcn
  go_enter Tryz.func24, Tryz.ntmps24
  go_wp2_with fail
  go_loopw [3, 4, 6, 12] (fun a b _ j wr => ∃ (k : Nat) (vo vr : Value), k ≤ n ∧ vo = a ∧ vr = b ∧ j = .int .i64 k ∧ Below w.heap.size w wr ∧ (∀ b, vo.ownBlock = some b → vr.ownBlock ≠ some b) ∧ Hid (wr.ownsRow w.heap.size 31 1 vo (relOut D (ws.take k)).length ((relOut D (ws.take k)).map RE.rv)) ∧ Hid (wr.ownsRow w.heap.size 31 1 vr (relKeep D (ws.take k)).length ((relKeep D (ws.take k)).map RE.rv))) (fun _ _ _ j _ => n - (intOf j).toNat)
  case atStart => exact ⟨0, _, _, Nat.zero_le _, rfl, rfl, rfl, Below.refl _ _, fun _ h => by simp [Value.ownBlock] at h, Lib.hid (World.ownsRow_nil _ _ _ _), Lib.hid (World.ownsRow_nil _ _ _ _)⟩
  case round =>
    obtain ⟨k, vo, vr, hk, rfl, rfl, rfl, hbel, hsep, HO, HK⟩ := hrel
    have hs2 : w.heap.size ≤ wr.heap.size := hbel.size
    have q' := wcell5 (HS.out.gm.blk.below hbel hgl)
    rw [HCN.out] at q'
    by_cases hlt : k < n
    · as_aux_lemma =>
      have HW : GateS w base g s cap ns D (.slice Aw n cw) ws (.slice none 0 0) [] := HS.out
      obtain ⟨b, off, c', A1, m1, c1, row, hv, -, -, hb, -, he, hri, qc⟩ := (HW.rr.later hbel).at_ (i := k) (by rw [HN.out]; exact hlt)
      injection hv with e1 e0 e2
      clear e0
      subst e1
      subst e2
      have hmr : MomRow cn row := by
        have := HW.mom _ (dat_mem (l := ws) (i := k) (by rw [HN.out]; exact hlt))
        rw [he, HCN.out] at this
        exact this
      obtain ⟨hm1, hm2, hm3⟩ := hmr
      rw [Int.toNat_natCast] at hm1 hm2 hm3
      obtain ⟨A9, c9, iA, iC, hv9, -, -, hs9, -, -⟩ := hri.shape
      injection hv9 with e1 e2 e3
      subst e1
      subst e2
      subst e3
      obtain ⟨b9, o9, rfl, -, hb9, hc9⟩ := hs9 (by omega)
      obtain ⟨x1, x2, -, -, -⟩ := hc9 cn hm1
      unfold Mom at hm3
      have HAT := Lib.hid (show atOf D.column row = (at_ row cn).n by unfold atOf; rw [HCN.out, Int.toNat_natCast])
      have HTK := Lib.hid (show ws.take (k + 1) = ws.take k ++ [⟨.slice (some ⟨b9, o9, none⟩) row.length c1, row⟩] by
        rw [List.take_succ_eq_append_getElem (by rw [HN.out]; exact hlt), ← dat_eq, he])
      have hlo : (relOut D (ws.take k)).length ≤ k := Nat.le_trans (List.length_filter_le _ _) (List.length_take_le _ _)
      have hlk : (relKeep D (ws.take k)).length ≤ k := Nat.le_trans (List.length_filter_le _ _) (List.length_take_le _ _)
      have HLO := Lib.hid hlo
      have HLK := Lib.hid hlk
      generalize hat : (at_ row cn).n = at1 at *
      clear q he hri hm2 hs9 hc9 HW hlo hlk hat
      by_cases hlate : at1 < D.mark
      · as_aux_lemma =>
        have hd1 : decide (at1 < D.mark) = true := by simp [hlate]
        have HP := Lib.hid (show relP D ⟨.slice (some ⟨b9, o9, none⟩) row.length c1, row⟩ = true by unfold relP; rw [HAT.out]; exact hd1)
        clear hlate
        go_wp2_with fail
        go_quiet (fail)
        go_wp2_with (at_builtin; refine append_own2 (wr.drewN nq) rfl (.tmp 29) (.tmp 31) 22 rfl w.heap.size 31 underR infoR rfl (by decide) _ _ _ [.slice (some ⟨b9, o9, none⟩) row.length c1] rfl (own_keep HO.out (fun _ _ => rfl)) rfl rfl (by simp [Value.oneCell']) (by have := HLO.out; omega) (by decide) hs2 ?_)
        intro v' w4 hown' hb4 hkept
        have HO2 := Lib.hid (show w4.ownsRow w.heap.size 31 1 v' (relOut D (ws.take (k + 1))).length ((relOut D (ws.take (k + 1))).map RE.rv) by
          rw [HTK.out, relOut_snoc, if_pos HP.out, List.length_append, List.map_append]; exact hown')
        have HK2 := Lib.hid (show w4.ownsRow w.heap.size 31 1 vr (relKeep D (ws.take (k + 1))).length ((relKeep D (ws.take (k + 1))).map RE.rv) by
          rw [HTK.out, relKeep_snoc, if_pos HP.out]; exact own_keep HK.out (fun b hb => (hkept.block b (HK.out.lt b hb).2 (fun e => hsep b e hb)).1))
        have hsep2 : ∀ b, v'.ownBlock = some b → vr.ownBlock ≠ some b := fun b hb hl => (hkept.block b (HK.out.lt b hl).2 (fun e => hsep b e hl)).2 hb
        have hbel2 := (below_drewN hbel nq).trans hb4
        clear hown' hb4 hkept
        go_wp2_with fail
        go_roundw
        case rel => exact ⟨k + 1, v', vr, hlt, rfl, rfl, by go_num, hbel2, hsep2, HO2, HK2⟩
        case measure => simp [intOf] <;> omega
      · as_aux_lemma =>
        have hd1 : decide (at1 < D.mark) = false := by simp; omega
        have HP := Lib.hid (show relP D ⟨.slice (some ⟨b9, o9, none⟩) row.length c1, row⟩ = false by unfold relP; rw [HAT.out]; exact hd1)
        clear hlate
        go_wp2_with fail
        go_quiet (fail)
        go_wp2_with (at_builtin; refine append_own2 (wr.drewN nq) rfl (.tmp 33) (.tmp 35) 22 rfl w.heap.size 31 underR infoR rfl (by decide) _ _ _ [.slice (some ⟨b9, o9, none⟩) row.length c1] rfl (own_keep HK.out (fun _ _ => rfl)) rfl rfl (by simp [Value.oneCell']) (by have := HLK.out; omega) (by decide) hs2 ?_)
        intro v' w4 hown' hb4 hkept
        have HK2 := Lib.hid (show w4.ownsRow w.heap.size 31 1 v' (relKeep D (ws.take (k + 1))).length ((relKeep D (ws.take (k + 1))).map RE.rv) by
          rw [HTK.out, relKeep_snoc, if_neg (by rw [HP.out]; decide), List.length_append, List.map_append]; exact hown')
        have HO2 := Lib.hid (show w4.ownsRow w.heap.size 31 1 vo (relOut D (ws.take (k + 1))).length ((relOut D (ws.take (k + 1))).map RE.rv) by
          rw [HTK.out, relOut_snoc, if_neg (by rw [HP.out]; decide)]; exact own_keep HO.out (fun b hb => (hkept.block b (HO.out.lt b hb).2 (hsep b hb)).1))
        have hsep2 : ∀ b, vo.ownBlock = some b → v'.ownBlock ≠ some b := fun b hb => (hkept.block b (HO.out.lt b hb).2 (hsep b hb)).2
        have hbel2 := (below_drewN hbel nq).trans hb4
        clear hown' hb4 hkept
        go_wp2_with fail
        go_roundw
        case rel => exact ⟨k + 1, vo, v', hlt, rfl, rfl, by go_num, hbel2, hsep2, HO2, HK2⟩
        case measure => simp [intOf] <;> omega
    · as_aux_lemma =>
      obtain rfl : k = n := by omega
      have htk : ws.take k = ws := List.take_of_length_le (by rw [HN.out]; omega)
      rw [htk] at HO HK
      have HWt := Lib.hid (HS.out.setWait hbel hbase HK.out (fun e he => (List.mem_filter.1 he).1))
      have hvo : vo.ownBlock ≠ some g := fun e => by
        have := (HO.out.lt g e).1
        omega
      have HRR := Lib.hid (show RR (wr.setCell ⟨g, 4, none⟩ vr) (fun _ => True) (fun _ => True) vo (relOut D ws) from
        ⟨(SL.of_own (ownsRow_setCell_other HO.out (a := ⟨g, 4, none⟩) hvo vr)).mono (fun _ _ _ => trivial), fun e he =>
          (HS.out.rows e (.inl (List.mem_filter.1 he).1)).keep (by simpa using hbel.size) (fun b hb' hlt => ⟨(Below.heap_setCell _ _ _ _ (show b ≠ g from fun e => hb'.2 (.inl e))).trans (hbel.block b hlt), trivial⟩)⟩)
      have hlo : (relOut D ws).length < 1073741824 := by
        have := List.length_filter_le (relP D) ws
        have e : relOut D ws = ws.filter (relP D) := rfl
        rw [e]
        rw [HN.out] at this
        omega
      have HVR := Lib.hid (fun b (hb : vr.ownBlock = some b) => (HK.out.lt b hb).1)
      have HX := Lib.hid (show Tab.Ext (fun b => b = g) w (wr.setCell ⟨g, 4, none⟩ vr) from Tab.Ext.setCell (M := fun b => b = g) (p := ⟨g, 4, none⟩) (Tab.Ext.of_below hbel) (.inl rfl) vr)
      have fz := (HS.out.gm.blk.below hbel hgl).frozen 4
      have hgl2 := (HS.out.gm.blk.below hbel hgl).lt
      obtain ⟨_, Ar, cr, er, _, _, _⟩ := SL.of_own HK.out
      subst er
      have HON := Lib.hid (fun W => ones_any (fun _ => True) (fun _ => True) vo (relOut D ws) W)
      clear q
      go_wp2_with fail
      generalize hW : wr.setCell ⟨g, 4, none⟩ (.slice Ar _ cr) = W at *
      refine (HON.out W HRR.out hlo).mono ?_
      rintro e w1 ⟨v1, rfl, ho1, hb1⟩
      have HB1 := Lib.hid hb1
      have HRD := Lib.hid ho1.rd
      go_wp2_with fail
      refine (canonical_any _ _ v1 _ w1 HRD.out (by unfold onesOf; rw [List.length_map]; exact hlo) (by rw [dcells_absN]; omega)).mono ?_
      rintro e w2 ⟨v2, out, rfl, ho2, hc2, hb2⟩
      obtain ⟨_, Al, cl, e, g1, g2, _⟩ := SL.of_own ho2.own
      subst e
      have HCL := Lib.hid (fun W => clipD_any Al out.length cl (SL.of_own ho2.own).none_zero g1 g2 W)
      have HO2 := Lib.hid ho2
      have HC2 := Lib.hid hc2
      have hbw := HB1.out.trans (hb2.mono HB1.out.size)
      clear ho1 ho2 hc2
      go_wp2_with fail
      refine (HCL.out _).mono ?_
      rintro e w3 ⟨rfl, rfl⟩
      go_wp2_with fail
      go_ret
      exact ⟨_, out, _, rfl, HX.out.trans (Tab.Ext.of_below hbw), HWt.out.later hbw, ⟨(HO2.out.rd.sl.clip.mono fun b hb _ => Nat.le_trans (Nat.le_trans HX.out.size HB1.out.size) hb), fun d hd => ⟨(HO2.out.rd.good d hd).row.mono (fun _ _ _ => trivial), (HO2.out.rd.good d hd).n⟩⟩, HC2.out, HVR.out⟩
end Go.Proofs.YthejmnmkbldacaaGreatDoor

namespace Go.Proofs.YthejmnmkbldacaaGreatDoor
open Go.RowKit
attribute [local go_sem] Tab.Env.ev Tab.Env.get

theorem tot_ones_bound (r : DE) : ∀ l : List RE, 0 ≤ tot cmpD DE.n r (onesOf l) ∧ tot cmpD DE.n r (onesOf l) ≤ l.length
  | [] => ⟨Int.le_refl _, Int.le_refl _⟩
  | e :: l => by
    have ih := tot_ones_bound r l
    have h : onesOf (e :: l) = ⟨e.rv, e.row, 1⟩ :: onesOf l := rfl
    rw [h]
    simp only [tot, List.length_cons]
    split <;> omega

theorem RGateS.setWait {w w' : World} {base g : Nat} {D : GateD} {mv iv vw vr : Value} {ws rs : List RE} (h : RGateS w base g D mv iv vw ws (.slice none 0 0) []) (hb : Below w.heap.size w w') (hbase : base ≤ w.heap.size) (ho : w'.ownsRow w.heap.size 31 1 vr rs.length (rs.map RE.rv)) (hsub : ∀ e, e ∈ rs → e ∈ ws) :
    RGateS (w'.setCell ⟨g, 5, none⟩ vr) base g D mv iv vr rs (.slice none 0 0) [] := by
  have h' := h.gm.later hb
  have hbr := own_mono hbase ho
  refine ⟨⟨h'.blk.set_ 5 vr, ownsRow_setCell_other h'.mown (a := ⟨g, 5, none⟩) (own_blk_ne h'.mown h'.blk (by decide)) _, ownsRow_setCell_other h'.iown (a := ⟨g, 5, none⟩) (own_blk_ne h'.iown h'.blk (by decide)) _, h.gm.bg, h.gm.ok⟩, ownsRow_setCell_other hbr (a := ⟨g, 5, none⟩) (own_blk_ne hbr h'.blk (by decide)) _, World.ownsRow_nil _ _ _ _, fun _ _ => by simp [Value.ownBlock], fun e he => ?_, fun e he => h.mom e (hsub e he)⟩
  rcases he with he | he
  · exact (h.rows e (.inl (hsub e he))).keep (by simpa using hb.size) fun b h1 h2 => ⟨(Below.heap_setCell _ _ _ _ (show b ≠ g from fun e => by have := h.gm.bg; omega)).trans (hb.block b h2), h1⟩
  · exact absurd he (by simp)

/-- what the reference's Release leaves -/
def RRelPost (base g : Nat) (D : GateD) (mv iv : Value) (ws : List RE) (w : World) (e : Ending) (w' : World) : Prop :=
  ∃ v vr es, e = .returned v ∧ Tab.Ext (fun b => b = g) w w' ∧ RGateS w' base g D mv iv vr (relKeep D ws) (.slice none 0 0) [] ∧ DiffI cmpD setN (onesOf (relOut D ws)) es ∧ RD w' (fun b => w.heap.size ≤ b) (fun b => b < base) v (refOut cmpD DE.n setN 1 (onesOf (relOut D ws)) es) ∧ (∀ b, vr.ownBlock = some b → w.heap.size ≤ b)

set_option maxHeartbeats 4000000 in
set_option maxRecDepth 100000 in
theorem releaseR_any (w : World) (base g : Nat) (D : GateD) (mv iv vw : Value) (ws : List RE) (hS : RGateS w base g D mv iv vw ws (.slice none 0 0) []) (hbase : base ≤ w.heap.size) (hn : ws.length < 4194304) :
    Calls Tryz.prog 25 #[.pointer (some ⟨g, 0, none⟩)] w (RRelPost base g D mv iv ws w) := by
  have HS := Lib.hid hS
  have q := wcell6 hS.gm.blk
  have hgl := hS.gm.blk.lt
  obtain ⟨_, Aw, cw, ew, gw1, gw2, _⟩ := SL.of_own hS.wown
  subst ew
  unfold maxLen at gw2
  obtain ⟨n, hln⟩ : ∃ n, ws.length = n := ⟨_, rfl⟩
  rw [hln] at gw1 hn q HS
  have HN := Lib.hid hln
  obtain ⟨cn, hcn⟩ : ∃ cn : Nat, D.column = cn := ⟨D.column.toNat, by have := hS.gm.ok.col; omega⟩
  have HCN := Lib.hid hcn
  have hcni := hS.gm.ok.coli
  have hmkb := hS.gm.ok.mkb
  unfold Mom at hmkb
  rw [hcn] at q hcni
  clear hS hln hcn
  go_enter Tryz.func25, Tryz.ntmps25
  go_wp2_with fail
  go_loopw [3, 4, 6, 14] (fun a b _ j wr => ∃ (k : Nat) (vo vr : Value), k ≤ n ∧ vo = a ∧ vr = b ∧ j = .int .i64 k ∧ Below w.heap.size w wr ∧ (∀ b, vo.ownBlock = some b → vr.ownBlock ≠ some b) ∧ Hid (wr.ownsRow w.heap.size 31 1 vo (relOut D (ws.take k)).length ((relOut D (ws.take k)).map RE.rv)) ∧ Hid (wr.ownsRow w.heap.size 31 1 vr (relKeep D (ws.take k)).length ((relKeep D (ws.take k)).map RE.rv))) (fun _ _ _ j _ => n - (intOf j).toNat)
  case atStart => exact ⟨0, _, _, Nat.zero_le _, rfl, rfl, rfl, Below.refl _ _, fun _ h => by simp [Value.ownBlock] at h, Lib.hid (World.ownsRow_nil _ _ _ _), Lib.hid (World.ownsRow_nil _ _ _ _)⟩
  case round =>
    obtain ⟨k, vo, vr, hk, rfl, rfl, rfl, hbel, hsep, HO, HK⟩ := hrel
    have hs2 : w.heap.size ≤ wr.heap.size := hbel.size
    have q' := wcell6 (HS.out.gm.blk.below hbel hgl)
    rw [HCN.out] at q'
    by_cases hlt : k < n
    · as_aux_lemma =>
      have HW : RGateS w base g D mv iv (.slice Aw n cw) ws (.slice none 0 0) [] := HS.out
      have hrr0 : RR w (fun b => base ≤ b) (fun b => b < base) (.slice Aw n cw) ws := ⟨SL.of_own HW.wown, fun e he => HW.rows e (.inl he)⟩
      obtain ⟨b, off, c', A1, m1, c1, row, hv, -, -, hb, -, he, hri, qc⟩ := (hrr0.later hbel).at_ (i := k) (by rw [HN.out]; exact hlt)
      injection hv with e1 e0 e2
      clear e0
      subst e1
      subst e2
      have hmr : MomRow cn row := by
        have := HW.mom _ (dat_mem (l := ws) (i := k) (by rw [HN.out]; exact hlt))
        rw [he, HCN.out] at this
        exact this
      obtain ⟨hm1, hm2, hm3⟩ := hmr
      rw [Int.toNat_natCast] at hm1 hm2 hm3
      obtain ⟨A9, c9, iA, iC, hv9, -, -, hs9, -, -⟩ := hri.shape
      injection hv9 with e1 e2 e3
      subst e1
      subst e2
      subst e3
      obtain ⟨b9, o9, rfl, -, hb9, hc9⟩ := hs9 (by omega)
      obtain ⟨x1, x2, -, -, -⟩ := hc9 cn hm1
      have HTK := Lib.hid (show ws.take (k + 1) = ws.take k ++ [⟨.slice (some ⟨b9, o9, none⟩) row.length c1, row⟩] by rw [List.take_succ_eq_append_getElem (by rw [HN.out]; exact hlt), ← dat_eq (by rw [HN.out]; exact hlt), he])
      have HP := Lib.hid (show relP D ⟨.slice (some ⟨b9, o9, none⟩) row.length c1, row⟩ = decide ((at_ row cn).n < D.mark) by unfold relP atOf; rw [HCN.out, Int.toNat_natCast])
      have hlo : (relOut D (ws.take k)).length < 4194304 := Nat.lt_of_le_of_lt (List.length_filter_le _ _) (by rw [List.length_take]; omega)
      have hlk : (relKeep D (ws.take k)).length < 4194304 := Nat.lt_of_le_of_lt (List.length_filter_le _ _) (by rw [List.length_take]; omega)
      have HLO := Lib.hid hlo
      have HLK := Lib.hid hlk
      generalize (at_ row cn).n = at1 at *
      clear he hri hm2 hm3 hs9 hc9 HW hrr0 hlo hlk q
      go_wp2_with fail
      refine Tab.wp_region_tabC (fun _ _ => True) (fun _ w_' => w_' = wr.drew) (by kernel_rfl) (by kernel_rfl) (fun _ => trivial) (fun _ _ _ _ _ => trivial) rfl ?_
      iterate 13 (first | (refine Tab.tab_moveE _ rfl ((fun _ _ h => h)) (.inl rfl) rfl rfl (fun _ => trivial) ?_; apply Exists.intro; refine And.intro ?_ ?_; focus (simp [Tab.Env.ev, Tab.Env.get]; rfl)) | (refine Tab.tab_moveE _ rfl ((fun _ _ h => h)) (.inr rfl) rfl rfl (fun _ => trivial) ?_; apply Exists.intro; refine And.intro ?_ ?_; focus (simp [Tab.Env.ev, Tab.Env.get]; rfl)) | refine Tab.tab_skip rfl ((fun _ _ h => h)) rfl ?_ | (refine Tab.tab_repE rfl ((fun _ _ h => h)) rfl (fun _ _ h => by cases h) rfl (fun _ => trivial) ?_; apply Exists.intro; refine And.intro (fun l w' _ _ hw => ?_) ?_; focus (go_simp; rfl)) | (refine Tab.tab_repE rfl ((fun _ _ h => h)) rfl (fun _ _ h => by cases h) rfl (fun _ => trivial) ?_; apply Exists.intro; refine And.intro (fun l w' hs hc hw => ?_) ?_; focus ((subst hc; go_simp; rfl))))
      intro l_ a_ w_ hall_ hcl_ _ hsat_
      have hw_ : w_ = wr.drew := hcl_
      subst hw_
      clear hcl_ hall_
      refine Tab.fin_of_sat rfl ?_ hsat_
      simp only [Tab.fin, Act.put, List.setIfInBounds_toArray, List.set_cons_succ, List.set_cons_zero]
      cases hp : decide (at1 < D.mark) with
      | true =>
        rw [hp] at HP
        clear hp x1 x2 qc q'
        go_wp2_with (at_builtin; refine append_own2 wr.drew rfl (.tmp 31) (.tmp 33) 22 rfl w.heap.size 31 underR infoR rfl (by decide) _ _ _ [.slice (some ⟨b9, o9, none⟩) row.length c1] rfl (own_keep HO.out (fun _ _ => rfl)) rfl rfl (by simp [Value.oneCell']) (by have := HLO.out; omega) (by decide) hs2 ?_)
        intro v' w4 hown' hb4 hkept
        have HO2 := Lib.hid (show w4.ownsRow w.heap.size 31 1 v' (relOut D (ws.take (k + 1))).length ((relOut D (ws.take (k + 1))).map RE.rv) by
          rw [HTK.out, relOut_snoc, if_pos HP.out, List.length_append, List.map_append]; exact hown')
        have HK2 := Lib.hid (show w4.ownsRow w.heap.size 31 1 vr (relKeep D (ws.take (k + 1))).length ((relKeep D (ws.take (k + 1))).map RE.rv) by
          rw [HTK.out, relKeep_snoc, if_pos HP.out]; exact own_keep HK.out (fun b hb => (hkept.block b (HK.out.lt b hb).2 (fun e => hsep b e hb)).1))
        have hsep2 : ∀ b, v'.ownBlock = some b → vr.ownBlock ≠ some b := fun b hb e => (hkept.block b (HK.out.lt b e).2 (fun e' => hsep b e' e)).2 hb
        have hbel2 := hbel.drew.trans hb4
        clear hown' hb4 hkept
        go_wp2_with fail
        go_roundw
        case rel => exact ⟨k + 1, v', vr, hlt, rfl, rfl, by go_num, hbel2, hsep2, HO2, HK2⟩
        case measure => simp [intOf] <;> omega
      | false =>
        rw [hp] at HP
        clear hp x1 x2 qc q'
        go_wp2_with (at_builtin; refine append_own2 wr.drew rfl (.tmp 35) (.tmp 37) 22 rfl w.heap.size 31 underR infoR rfl (by decide) _ _ _ [.slice (some ⟨b9, o9, none⟩) row.length c1] rfl (own_keep HK.out (fun _ _ => rfl)) rfl rfl (by simp [Value.oneCell']) (by have := HLK.out; omega) (by decide) hs2 ?_)
        intro v' w4 hown' hb4 hkept
        have HK2 := Lib.hid (show w4.ownsRow w.heap.size 31 1 v' (relKeep D (ws.take (k + 1))).length ((relKeep D (ws.take (k + 1))).map RE.rv) by
          rw [HTK.out, relKeep_snoc, if_neg (by rw [HP.out]; decide), List.length_append, List.map_append]; exact hown')
        have HO2 := Lib.hid (show w4.ownsRow w.heap.size 31 1 vo (relOut D (ws.take (k + 1))).length ((relOut D (ws.take (k + 1))).map RE.rv) by
          rw [HTK.out, relOut_snoc, if_neg (by rw [HP.out]; decide)]; exact own_keep HO.out (fun b hb => (hkept.block b (HO.out.lt b hb).2 (hsep b hb)).1))
        have hsep2 : ∀ b, vo.ownBlock = some b → v'.ownBlock ≠ some b := fun b hb => (hkept.block b (HO.out.lt b hb).2 (hsep b hb)).2
        have hbel2 := hbel.drew.trans hb4
        clear hown' hb4 hkept
        go_wp2_with fail
        go_roundw
        case rel => exact ⟨k + 1, vo, v', hlt, rfl, rfl, by go_num, hbel2, hsep2, HO2, HK2⟩
        case measure => simp [intOf] <;> omega
    · as_aux_lemma =>
      obtain rfl : k = n := by omega
      have htk : ws.take k = ws := List.take_of_length_le (by rw [HN.out]; omega)
      rw [htk] at HO HK
      have HWt := Lib.hid (HS.out.setWait hbel hbase HK.out (fun e he => (List.mem_filter.1 he).1))
      have hvo : vo.ownBlock ≠ some g := fun e => by
        have := (HO.out.lt g e).1
        omega
      have HRR := Lib.hid (show RR (wr.setCell ⟨g, 5, none⟩ vr) (fun _ => True) (fun b => b < base) vo (relOut D ws) from
        ⟨(SL.of_own (ownsRow_setCell_other HO.out (a := ⟨g, 5, none⟩) hvo vr)).mono (fun _ _ _ => trivial), fun e he =>
          (HS.out.rows e (.inl (List.mem_filter.1 he).1)).keep (by simpa using hbel.size) (fun b hb' hlt => ⟨(Below.heap_setCell _ _ _ _ (show b ≠ g from fun e => by have := HS.out.gm.bg; omega)).trans (hbel.block b hlt), hb'⟩)⟩)
      have hlo : (relOut D ws).length < 4194304 := Nat.lt_of_le_of_lt (List.length_filter_le _ _) (by rw [HN.out]; exact hn)
      have HLO := Lib.hid hlo
      have HX := Lib.hid (show Tab.Ext (fun b => b = g) w (wr.setCell ⟨g, 5, none⟩ vr) from Tab.Ext.setCell (M := fun b => b = g) (p := ⟨g, 5, none⟩) (Tab.Ext.of_below hbel) (.inl rfl) vr)
      have HVR := Lib.hid (fun b (hb : vr.ownBlock = some b) => (HK.out.lt b hb).1)
      have fz := (HS.out.gm.blk.below hbel hgl).frozen 5
      have hgl2 := (HS.out.gm.blk.below hbel hgl).lt
      obtain ⟨Ar, mr, cr, er⟩ := own_slice HK.out
      subst er
      have HON := Lib.hid (fun W => ofRows_any (fun _ => True) (fun b => b < base) vo (relOut D ws) 1 (show I64 1 by unfold I64; decide) W)
      clear q hlo
      go_wp2_with fail
      generalize hW : wr.setCell ⟨g, 5, none⟩ (.slice Ar mr cr) = W at *
      refine (HON.out W HRR.out (by have := HLO.out; omega)).mono ?_
      rintro e w1 ⟨v1, rfl, ho1, hb1⟩
      have HB1 := Lib.hid hb1
      have hone : ofRowsD (relOut D ws) 1 = onesOf (relOut D ws) := rfl
      rw [hone] at ho1
      have HRD := Lib.hid ho1.rd
      have HCR := Lib.hid (canonicalR_any 1 (.inl rfl) _ _ v1 _ w1 HRD.out (by unfold onesOf; rw [List.length_map]; exact HLO.out))
      clear hone ho1 hb1 HON
      go_wp2_with fail
      refine HCR.out.mono ?_
      rintro e w2 ⟨hb2, es, hdi, (⟨_, x, hx, hbad⟩ | ⟨v2, rfl, hall, ho2⟩)⟩
      · exfalso
        refine hbad ?_
        have h1 := tot_ones_bound x (relOut D ws)
        have h2 := HLO.out
        rw [Int.one_mul, timesR_in]
        unfold InT
        omega
      · have HO2 := Lib.hid ho2
        have HD2 := Lib.hid hdi
        have hbw := HB1.out.trans (hb2.mono HB1.out.size)
        have hwW : w.heap.size ≤ W.heap.size := HX.out.size
        have hw1 := HB1.out.size
        clear ho2 hdi hall hb2 HCR
        go_wp2_with fail
        go_ret
        exact ⟨_, _, es, rfl, HX.out.trans (Tab.Ext.of_below hbw), HWt.out.later hbw, HD2.out, HO2.out.rd.mono (fun b hb _ => by omega) (fun b hb _ => hb.1.1), HVR.out⟩
end Go.Proofs.YthejmnmkbldacaaGreatDoor

namespace Go.Proofs.YthejmnmkbldacaaGreatDoor
open Go.RowKit Go.Deep

/-- the types and places of a struct's fields -/
def fieldsOf (P : Program) (t : TypeId) : Option (List (TypeId × Nat)) :=
  match P.underlying t with
  | some (.struct fs) => some (fs.toList.map fun f => (f.type, f.offset))
  | _ => none
section
variable {H : Type} {enc : TypeId × Value → H} {P : Program} {w : World} {base : Nat} {spare : Nat → Bool} {held : Bool}
theorem trod_fields {t : TypeId} {l : List (TypeId × Nat)} {fuel : Nat} {cs : List Value} {x : DataW H × List MemPlace} (hf : fieldsOf P t = some l) (h : DataW.trod enc P w base spare held fuel t cs = some x) :
    ∃ (xs : List (DataW H × List MemPlace)) (n : Nat), fuel = n + 1 ∧ x = (.agg (xs.map (·.1)), xs.flatMap (·.2)) ∧ cs.length = P.cellsOf t ∧ xs.length = l.length ∧
      ∀ (i : Nat) (t' : TypeId) (o : Nat), l[i]? = some (t', o) → DataW.trod enc P w base spare held n t' ((cs.drop o).take (P.cellsOf t')) = xs[i]? := by
  unfold fieldsOf at hf
  split at hf
  · rename_i fs hu
    injection hf with hf
    obtain ⟨xs, n, h1, h2, h3, h4, h5⟩ := DataW.trod_struct hu h
    refine ⟨xs, n, h1, h2, h3, by rw [h4, ← hf]; simp, fun i t' o hi => ?_⟩
    rw [← hf, List.getElem?_map, Option.map_eq_some_iff] at hi
    obtain ⟨f, hf1, hf2⟩ := hi
    injection hf2 with e1 e2
    subst e1
    subst e2
    exact h5 i f (by rw [← Array.getElem?_toList]; exact hf1)
  · cases hf
end
theorem uInt : Tryz.prog.underlying 3 = some (.int .i64) := by kernel_rfl
theorem uStr : Tryz.prog.underlying 9 = some .string := by kernel_rfl
theorem cInt : Tryz.prog.cellsOf 3 = 1 := by kernel_rfl
theorem cStr : Tryz.prog.cellsOf 9 = 1 := by kernel_rfl
theorem cSlV : Tryz.prog.cellsOf 31 = 1 := by kernel_rfl
theorem cSlR : Tryz.prog.cellsOf 22 = 1 := by kernel_rfl
theorem cVal : Tryz.prog.cellsOf 33 = 5 := by kernel_rfl
theorem fVal : fieldsOf Tryz.prog 33 = some [(3, 0), (3, 1), (3, 2), (9, 3), (31, 4)] := by kernel_rfl
theorem cOp : Tryz.prog.cellsOf 45 = 3 := by kernel_rfl
theorem fOp : fieldsOf Tryz.prog 45 = some [(3, 0), (3, 1), (22, 2)] := by kernel_rfl
theorem uOps : Tryz.prog.underlying 37 = some (.slice 45) := by kernel_rfl

theorem i64_of_wf {n : Int} (h : (Lit.int .i64 n).wf = true) : I64 n := by
  unfold Lit.wf at h
  rw [Bool.and_eq_true] at h
  exact ⟨of_decide_eq_true h.1, of_decide_eq_true h.2⟩

section
variable {H : Type} {enc : TypeId × Value → H} {w : World} {spare : Nat → Bool} {held : Bool}
/-- a value's cells -/
theorem five {α : Type} {l : List α} (h : l.length = 5) : ∃ a b c d e, l = [a, b, c, d, e] := by
  match l, h with
  | [a, b, c, d, e], _ => exact ⟨a, b, c, d, e, rfl⟩
theorem three {α : Type} {l : List α} (h : l.length = 3) : ∃ a b c, l = [a, b, c] := by
  match l, h with
  | [a, b, c], _ => exact ⟨a, b, c, rfl⟩
theorem open_value {fuel : Nat} {cs : List Value} {x : DataW H × List MemPlace} (h : DataW.trod enc Tryz.prog w 0 spare held fuel 33 cs = some x) :
    ∃ (k n sc : Int) (s : ByteArray) (iv : Value) (y : DataW H × List MemPlace) (m : Nat), fuel = m + 1 ∧ cs = [.int .i64 k, .int .i64 n, .int .i64 sc, .string s, iv] ∧ I64 k ∧ I64 n ∧ I64 sc ∧ s.size ≤ maxLen ∧
      DataW.trod enc Tryz.prog w 0 spare held m 31 [iv] = some y ∧ Rows.uptoBulk y.1 ≤ Rows.uptoBulk x.1 := by
  obtain ⟨xs, m, rfl, rfl, hl, hxl, hf⟩ := trod_fields fVal h
  rw [cVal] at hl
  obtain ⟨x0, x1, x2, x3, x4, rfl⟩ := five hxl
  obtain ⟨c0, c1, c2, c3, c4, rfl⟩ := five hl
  have f0 := hf 0 _ _ rfl
  have f1 := hf 1 _ _ rfl
  have f2 := hf 2 _ _ rfl
  have f3 := hf 3 _ _ rfl
  have f4 := hf 4 _ _ rfl
  rw [cInt] at f0 f1 f2
  rw [cStr] at f3
  rw [cSlV] at f4
  obtain ⟨k, e0, _, w0⟩ := DataW.trod_int uInt f0
  obtain ⟨n, e1, _, w1⟩ := DataW.trod_int uInt f1
  obtain ⟨sc, e2, _, w2⟩ := DataW.trod_int uInt f2
  obtain ⟨s, e3, _, w3⟩ := DataW.trod_string uStr f3
  simp at e0 e1 e2 e3
  subst e0 e1 e2 e3
  refine ⟨k, n, sc, s, c4, x4, m, rfl, rfl, i64_of_wf w0, i64_of_wf w1, i64_of_wf w2, w3, f4, ?_⟩
  simp only [List.map_cons, List.map_nil, Rows.uptoBulk, Rows.uptoBulkAll]
  omega

theorem bulk_part {d : DataW H} {l : List (DataW H)} (h : d ∈ l) : Rows.uptoBulk d ≤ Rows.uptoBulkAll l := by
  induction l with
  | nil => cases h
  | cons x r ih =>
    simp only [Rows.uptoBulkAll]
    cases List.mem_cons.1 h with
    | inl e => subst e; omega
    | inr e => have := ih e; omega
theorem bulk_one (d : DataW H) : 1 ≤ Rows.uptoBulk d := by
  cases d with
  | lit l => cases l <;> simp [Rows.uptoBulk]
  | nil => simp [Rows.uptoBulk]
  | ptr d => simp [Rows.uptoBulk]
  | slice elems spare => simp [Rows.uptoBulk]
  | agg parts => simp [Rows.uptoBulk]
  | iface t d => simp [Rows.uptoBulk]
  | map entries => simp [Rows.uptoBulk]
  | held h => simp [Rows.uptoBulk]
theorem bulk_len (l : List (DataW H)) : l.length ≤ Rows.uptoBulkAll l := by
  induction l with
  | nil => simp [Rows.uptoBulkAll]
  | cons x r ih => have := bulk_one x; simp only [Rows.uptoBulkAll, List.length_cons]; omega

/-- a slice's elements, with their cells -/
theorem open_elems {t e : TypeId} {c : Nat} (ht : Tryz.prog.underlying t = some (.slice e)) (hc : Tryz.prog.cellsOf e = c) {fuel : Nat} {cs : List Value} {x : DataW H × List MemPlace} (h : DataW.trod enc Tryz.prog w 0 spare held fuel t cs = some x) :
    cs = [.slice none 0 0] ∨ ∃ (a : Addr) (len cap : Nat) (elems : List (DataW H × List MemPlace)) (n : Nat), fuel = n + 1 ∧ cs = [.slice (some a) len cap] ∧ len ≤ cap ∧ cap ≤ maxLen ∧ elems.length = len ∧ Rows.uptoBulkAll (elems.map (·.1)) + 1 ≤ Rows.uptoBulk x.1 ∧
      ∀ i, i < len → ∃ cs' y, elems[i]? = some y ∧ cs'.length = c ∧ (∀ j, j < c → w.cell? (a.add (i * c + j)) = cs'[j]?) ∧ DataW.trod enc Tryz.prog w 0 spare held n e cs' = some y := by
  rcases DataW.trod_slice ht h with ⟨h0, _⟩ | ⟨a, len, cap, elems, rest, n, rfl, rfl, rfl, _, hl, hm, hlen, hel, _, _⟩
  · exact .inl h0
  right
  refine ⟨a, len, cap, elems, n, rfl, rfl, hl, hm, hlen, by simp only [Rows.uptoBulk]; omega, fun i hi => ?_⟩
  have key := hel i hi
  rw [List.getElem?_eq_getElem (by omega)] at key
  obtain ⟨cs', h1, h2⟩ := Option.bind_eq_some_iff.1 key
  obtain ⟨_, h3, h4⟩ := World.cells?_some h1
  rw [hc] at h3 h4
  exact ⟨cs', elems[i], List.getElem?_eq_getElem (by omega), h3, fun j hj => by rw [← h4 j hj, add_add], h2⟩

theorem lt_of_cell {a : Addr} {v : Value} (h : w.cell? a = some v) : a.block < w.heap.size := by
  unfold World.cell? at h
  cases hh : w.heap[a.block]? with
  | none => rw [hh] at h; simp at h
  | some o => exact (Array.getElem?_eq_some_iff.1 hh).1

theorem addr_spot {a : Addr} {v : Value} (h : w.cell? (a.add 0) = some v) : a.spot = none ∧ a.block < w.heap.size := by
  rw [show a.add 0 = a by simp [Addr.add]] at h
  exact ⟨World.cell?_spot h, lt_of_cell h⟩
theorem addr_add {a : Addr} (h : a.spot = none) (k j : Nat) : a.add (k + j) = ⟨a.block, a.off + k + j, none⟩ := by
  obtain ⟨b, o, sp⟩ := a
  simp only at h
  subst h
  unfold Addr.add
  split
  · simp only [Addr.mk.injEq, and_true, true_and]
    omega
  · simp only [Addr.mk.injEq, and_true, true_and]
    omega
theorem smL_of : ∀ {l : List VD}, (∀ y, y ∈ l → smV y) → smL l
  | [], _ => trivial
  | a :: l, h => ⟨h a (by simp), smL_of fun y hy => h y (List.mem_cons_of_mem _ hy)⟩

/-- what reads as a list of values -/
theorem open_row : ∀ (fuel : Nat) (cs : List Value) (x : DataW H × List MemPlace), DataW.trod enc Tryz.prog w 0 spare held fuel 31 cs = some x →
    ∃ (v : Value) (l : List VD), cs = [v] ∧ RI w (fun b => b < w.heap.size) v l ∧ (Rows.uptoBulk x.1 ≤ 1048576 → l.length < 1073741824 ∧ ∀ y, y ∈ l → smV y) := by
  intro fuel
  induction fuel using Nat.strongRecOn with
  | _ fuel ih =>
    intro cs x h
    rcases open_elems underV cVal h with rfl | ⟨a, len, cap, elems, n, rfl, rfl, hl, hm, hlen, hbulk, hel⟩
    · exact ⟨_, [], rfl, RI.nil _ _, fun _ => ⟨by simp, fun y hy => by cases hy⟩⟩
    · have hspot : 0 < len → a.spot = none ∧ a.block < w.heap.size := fun h0 => by
        obtain ⟨cs', y, hy, hcl, hcell, ht⟩ := hel 0 h0
        obtain ⟨k, nn, sc, s, iv, z, m, rfl, rfl, _⟩ := open_value ht
        have c0 := hcell 0 (by omega)
        rw [Nat.zero_mul, Nat.zero_add] at c0
        exact addr_spot c0
      have hx : ∀ i, i < len → ∃ p : VD × Option Addr × Nat, CellsV w a.block (a.off + i * 5) p.1 p.2.1 p.2.2 ∧ (a.spot = none ∧ a.block < w.heap.size) ∧ p.1.ok ∧ RI w (fun b => b < w.heap.size) (.slice p.2.1 p.1.items.length p.2.2) p.1.items ∧ (Rows.uptoBulk x.1 ≤ 1048576 → smV p.1) := by
        intro i hi
        obtain ⟨cs', y, hy, hcl, hcell, ht⟩ := hel i hi
        obtain ⟨k, nn, sc, s, iv, z, m, rfl, rfl, ok0, ok1, ok2, ok3, hz, hbz⟩ := open_value ht
        obtain ⟨v, li, e, hri, hsm⟩ := ih m (by omega) _ _ hz
        injection e with e
        subst e
        obtain ⟨A, c, _, _, e, _⟩ := hri.shape
        subst e
        obtain ⟨hsp, hlt⟩ := hspot (by omega)
        have hadd := addr_add hsp (i * 5)
        refine ⟨(.mk k nn sc s li, A, c), ⟨?_, ?_, ?_, ?_, ?_⟩, ⟨hsp, hlt⟩, ⟨ok0, ok1, ok2, ok3⟩, hri, fun hb => ?_⟩
        · exact (congrArg w.cell? (hadd 0)).symm.trans (hcell 0 (by omega))
        · exact (congrArg w.cell? (hadd 1)).symm.trans (hcell 1 (by omega))
        · exact (congrArg w.cell? (hadd 2)).symm.trans (hcell 2 (by omega))
        · exact (congrArg w.cell? (hadd 3)).symm.trans (hcell 3 (by omega))
        · exact (congrArg w.cell? (hadd 4)).symm.trans (hcell 4 (by omega))
        · have h1 : Rows.uptoBulk y.1 ≤ Rows.uptoBulkAll (elems.map (·.1)) := bulk_part (List.mem_map.2 ⟨y, List.mem_of_getElem? hy, rfl⟩)
          have := hsm (by omega)
          exact ⟨this.1, smL_of this.2⟩
      obtain ⟨f, hf⟩ := choose_lt (α := VD × Option Addr × Nat) hx
      have hat : ∀ i, i < len → at_ ((List.range len).map fun i => (f i).1) i = (f i).1 := fun i hi => by
        unfold at_
        rw [List.getD_eq_getElem?_getD]
        simp [hi]
      have hll : ((List.range len).map fun i => (f i).1).length = len := by simp
      refine ⟨_, (List.range len).map fun i => (f i).1, rfl, ?_, fun hb => ⟨?_, fun y hy => ?_⟩⟩
      · have := RI.mk (w := w) (F := fun b => b < w.heap.size) (some a) cap ((List.range len).map fun i => (f i).1) (fun i => (f i).2.1) (fun i => (f i).2.2) (by rw [hll]; exact hl) hm ?_ ?_ ?_
        · rw [hll] at this
          exact this
        · intro hpos
          rw [hll] at hpos
          obtain ⟨_, ⟨hsp, hlt⟩, _⟩ := hf 0 hpos
          refine ⟨a.block, a.off, by obtain ⟨b, o, sp⟩ := a; simp only at hsp; subst hsp; rfl, hlt, hlt, fun i hi => ?_⟩
          rw [hll] at hi
          rw [hat i hi]
          exact (hf i hi).1
        · intro i hi
          rw [hll] at hi
          rw [hat i hi]
          exact (hf i hi).2.2.1
        · intro i hi
          rw [hll] at hi
          rw [hat i hi]
          exact (hf i hi).2.2.2.1
      · have := bulk_len (elems.map (·.1))
        rw [List.length_map] at this
        rw [hll]
        omega
      · obtain ⟨i, hi, rfl⟩ := List.mem_map.1 hy
        exact (hf i (List.mem_range.1 hi)).2.2.2.2 hb
end
end Go.Proofs.YthejmnmkbldacaaGreatDoor
