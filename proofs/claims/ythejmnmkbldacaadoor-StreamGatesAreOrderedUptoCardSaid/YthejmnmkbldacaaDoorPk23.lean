/-
  What is proved: what Release makes of a gate. Conditions: fewer than 2^30 rows wait.
  What is proved: what reads as a list of values, of rows, of operations of a gate lies as these texts say. Conditions: none.
  What is proved: what reads as a list of rows, of operations of a gate lies as these texts say. Conditions: none.
  What is proved: slices.Concat of two lists of differences. Conditions: fewer than 2^30 differences.
  What is proved: Sum returns the canonical list of two lists of differences, or its error. Conditions: the tables of unicode/utf8 lie as they are laid; fewer than 2^21 differences, no list with 2^30 elements or more.
-/
import Derived.Test.YthejmnmkbldacaaDoorPk19
import Derived.Test.YthejmnmkbldacaaDoorPk22
import Derived.BigQuiet
import Derived.Test.YthejmnmkbldacaaDoorPk14
import Derived.Test.YthejmnmkbldacaaDoorPk13
import Derived.Test.YthejmnmkbldacaaDoorRows
import Derived.Deep.Slices
import Derived.Deep.Strs
import Derived.Carry
import Derived.Test.YthejmnmkbldacaaDoorPk12
import Derived.Lib.AppendZerosOnto
import Derived.Test.YthejmnmkbldacaaDoorPk17
import Derived.Test.YthejmnmkbldacaaDoorPk18
set_option linter.all false
namespace Go.Proofs.YthejmnmkbldacaaDoor
open Go.RowKit
attribute [local go_sem] Tab.Env.ev Tab.Env.get

theorem own_mono {w : World} {b b' : Nat} (h : b ≤ b') {e size n : Nat} {v : Value} {xs : List Value} (ho : w.ownsRow b' e size v n xs) : w.ownsRow b e size v n xs :=
  ⟨ho.1, ho.2.elim .inl fun ⟨g, cap, cur, h1, h2, h3⟩ => .inr ⟨g, cap, cur, h1, Nat.le_trans h h2, h3⟩⟩
/-- rows that wait and those that a gate keeps -/
def relP (D : GateD) (e : RE) : Bool := decide (atOf D.column e.row < D.mark)
def relOut (D : GateD) (ws : List RE) : List RE := ws.filter (relP D)
def relKeep (D : GateD) (ws : List RE) : List RE := ws.filter (fun e => !relP D e)
theorem relOut_snoc (D : GateD) (ws : List RE) (e : RE) : relOut D (ws ++ [e]) = if relP D e then relOut D ws ++ [e] else relOut D ws := by
  unfold relOut
  rw [List.filter_append]
  cases h : relP D e <;> simp [h]
theorem relKeep_snoc (D : GateD) (ws : List RE) (e : RE) : relKeep D (ws ++ [e]) = if relP D e then relKeep D ws else relKeep D ws ++ [e] := by
  unfold relKeep
  rw [List.filter_append]
  cases h : relP D e <;> simp [h]
section
variable {w w' : World} {base g s cap ns : Nat} {D : GateD} {vw vr : Value} {ws rs : List RE}
/-- other rows wait -/
theorem GateS.setWait (h : GateS w base g s cap ns D vw ws (.slice none 0 0) []) (hb : Below w.heap.size w w') (hbase : base ≤ w.heap.size) (ho : w'.ownsRow w.heap.size 37 1 vr rs.length (rs.map RE.rv)) (hsub : ∀ e, e ∈ rs → e ∈ ws) :
    GateS (w'.setCell ⟨g, 4, none⟩ vr) base g s cap ns D vr rs (.slice none 0 0) [] := by
  have hgl := h.gm.blk.lt
  have hvr : vr.ownBlock ≠ some g := fun e => by
    have := (ho.lt g e).1
    omega
  refine ⟨⟨(h.gm.blk.below hb hgl).set_ 4 vr, ?_, h.gm.len, h.gm.ne, h.gm.bg, h.gm.ok⟩, ownsRow_setCell_other (own_mono hbase ho) (a := ⟨g, 4, none⟩) hvr _, World.ownsRow_nil _ _ _ _, fun _ _ => by simp [Value.ownBlock], fun e he => ?_, fun e he => h.mom e (hsub e he)⟩
  · refine ownsRow_setCell_other (own_keep h.gm.src (fun b hb' => hb.block b (h.gm.src.lt b hb').2)) (a := ⟨g, 4, none⟩) (fun e => h.gm.ne (by
      simp only [Value.ownBlock] at e
      injection e with e
      exact e.symm)) _
  · rcases he with he | he
    · refine (h.rows e (.inl (hsub e he))).keep (by simpa using hb.size) (fun b hb' hlt => ⟨(Below.heap_setCell _ _ _ _ (show b ≠ g from fun e => hb'.2 (.inl e))).trans (hb.block b hlt), hb'.1, fun hm => ?_⟩)
      rcases hm with e | e | e | e
      · exact hb'.2 (.inl e)
      · exact hb'.2 (.inr (.inl e))
      · have := (ho.lt b e).1; omega
      · simp [Value.ownBlock] at e
    · exact absurd he (by simp)
theorem GateS.rr (h : GateS w base g s cap ns D vw ws (.slice none 0 0) []) : RR w (fun b => base ≤ b) (fun b => base ≤ b ∧ ¬ Mut g s vw (.slice none 0 0) b) vw ws := ⟨SL.of_own h.wown, fun e he => h.rows e (.inl he)⟩
end
theorem dcells_absN (l : List RE) : absN DE.n (onesOf l) = l.length := by
  induction l with
  | nil => rfl
  | cons e l ih =>
    have : onesOf (e :: l) = ⟨e.rv, e.row, 1⟩ :: onesOf l := rfl
    rw [this]
    simp only [absN, ih, List.length_cons]
    omega

/-- what Release leaves -/
def RelPost (base g s cap ns : Nat) (D : GateD) (ws : List RE) (w : World) (e : Ending) (w' : World) : Prop :=
  ∃ v out vr, e = .returned v ∧ Tab.Ext (fun b => b = g) w w' ∧ GateS w' base g s cap ns D vr (relKeep D ws) (.slice none 0 0) [] ∧ RD w' (fun _ => True) (fun _ => True) v out ∧ Canon cmpD DE.n setN (onesOf (relOut D ws)) out

set_option maxHeartbeats 3000000 in
set_option maxRecDepth 100000 in
theorem release_any (w : World) (base g s cap ns : Nat) (D : GateD) (vw : Value) (ws : List RE) (hS : GateS w base g s cap ns D vw ws (.slice none 0 0) []) (hbase : base ≤ w.heap.size) (hn : ws.length < 1073741824) :
    Calls Tryd.prog 12 #[.pointer (some ⟨g, 0, none⟩)] w (RelPost base g s cap ns D ws w) := by
  have HS := Lib.hid hS
  have q := wcell5 hS.gm.blk
  have hgl := hS.gm.blk.lt
  obtain ⟨_, Aw, cw, ew, gw1, gw2, _⟩ := SL.of_own hS.wown
  subst ew
  unfold maxLen at gw2
  obtain ⟨n, hln⟩ : ∃ n, ws.length = n := ⟨_, rfl⟩
  rw [hln] at gw1 hn q HS
  have HN := Lib.hid hln
  obtain ⟨cn, hcn⟩ : ∃ cn : Nat, D.column = cn := ⟨D.column.toNat, by have := hS.gm.ok.col; omega⟩
  have HCN := Lib.hid hcn
  have hcni := hS.gm.ok.coli
  have hmkb := hS.gm.ok.mkb
  unfold Mom at hmkb
  rw [hcn] at q hcni
  clear hS hln hcn
  go_enter Tryd.func12, Tryd.ntmps12
  go_wp2_with fail
  go_loopw [3, 4, 6, 12] (fun a b _ j wr => ∃ (k : Nat) (vo vr : Value), k ≤ n ∧ vo = a ∧ vr = b ∧ j = .int .i64 k ∧ Below w.heap.size w wr ∧ (∀ b, vo.ownBlock = some b → vr.ownBlock ≠ some b) ∧ Hid (wr.ownsRow w.heap.size 37 1 vo (relOut D (ws.take k)).length ((relOut D (ws.take k)).map RE.rv)) ∧ Hid (wr.ownsRow w.heap.size 37 1 vr (relKeep D (ws.take k)).length ((relKeep D (ws.take k)).map RE.rv))) (fun _ _ _ j _ => n - (intOf j).toNat)
  case atStart => exact ⟨0, _, _, Nat.zero_le _, rfl, rfl, rfl, Below.refl _ _, fun _ h => by simp [Value.ownBlock] at h, Lib.hid (World.ownsRow_nil _ _ _ _), Lib.hid (World.ownsRow_nil _ _ _ _)⟩
  case round =>
    obtain ⟨k, vo, vr, hk, rfl, rfl, rfl, hbel, hsep, HO, HK⟩ := hrel
    have hs2 : w.heap.size ≤ wr.heap.size := hbel.size
    have q' := wcell5 (HS.out.gm.blk.below hbel hgl)
    rw [HCN.out] at q'
    by_cases hlt : k < n
    · as_aux_lemma =>
      have HW : GateS w base g s cap ns D (.slice Aw n cw) ws (.slice none 0 0) [] := HS.out
      obtain ⟨b, off, c', A1, m1, c1, row, hv, -, -, hb, -, he, hri, qc⟩ := (HW.rr.later hbel).at_ (i := k) (by rw [HN.out]; exact hlt)
      injection hv with e1 e0 e2
      clear e0
      subst e1
      subst e2
      have hmr : MomRow cn row := by
        have := HW.mom _ (dat_mem (l := ws) (i := k) (by rw [HN.out]; exact hlt))
        rw [he, HCN.out] at this
        exact this
      obtain ⟨hm1, hm2, hm3⟩ := hmr
      rw [Int.toNat_natCast] at hm1 hm2 hm3
      obtain ⟨A9, c9, iA, iC, hv9, -, -, hs9, -, -⟩ := hri.shape
      injection hv9 with e1 e2 e3
      subst e1
      subst e2
      subst e3
      obtain ⟨b9, o9, rfl, -, hb9, hc9⟩ := hs9 (by omega)
      obtain ⟨x1, x2, -, -, -⟩ := hc9 cn hm1
      unfold Mom at hm3
      have HAT := Lib.hid (show atOf D.column row = (at_ row cn).n by unfold atOf; rw [HCN.out, Int.toNat_natCast])
      have HTK := Lib.hid (show ws.take (k + 1) = ws.take k ++ [⟨.slice (some ⟨b9, o9, none⟩) row.length c1, row⟩] by
        rw [List.take_succ_eq_append_getElem (by rw [HN.out]; exact hlt), ← dat_eq, he])
      have hlo : (relOut D (ws.take k)).length ≤ k := Nat.le_trans (List.length_filter_le _ _) (List.length_take_le _ _)
      have hlk : (relKeep D (ws.take k)).length ≤ k := Nat.le_trans (List.length_filter_le _ _) (List.length_take_le _ _)
      have HLO := Lib.hid hlo
      have HLK := Lib.hid hlk
      generalize hat : (at_ row cn).n = at1 at *
      clear q he hri hm2 hs9 hc9 HW hlo hlk hat
      by_cases hlate : at1 < D.mark
      · as_aux_lemma =>
        have hd1 : decide (at1 < D.mark) = true := by simp [hlate]
        have HP := Lib.hid (show relP D ⟨.slice (some ⟨b9, o9, none⟩) row.length c1, row⟩ = true by unfold relP; rw [HAT.out]; exact hd1)
        clear hlate
        go_wp2_with fail
        go_quiet (fail)
        go_wp2_with (at_builtin; refine append_own2 (wr.drewN nq) rfl (.tmp 29) (.tmp 31) 28 rfl w.heap.size 37 underR infoR rfl (by decide) _ _ _ [.slice (some ⟨b9, o9, none⟩) row.length c1] rfl (own_keep HO.out (fun _ _ => rfl)) rfl rfl (by simp [Value.oneCell']) (by have := HLO.out; omega) (by decide) hs2 ?_)
        intro v' w4 hown' hb4 hkept
        have HO2 := Lib.hid (show w4.ownsRow w.heap.size 37 1 v' (relOut D (ws.take (k + 1))).length ((relOut D (ws.take (k + 1))).map RE.rv) by
          rw [HTK.out, relOut_snoc, if_pos HP.out, List.length_append, List.map_append]; exact hown')
        have HK2 := Lib.hid (show w4.ownsRow w.heap.size 37 1 vr (relKeep D (ws.take (k + 1))).length ((relKeep D (ws.take (k + 1))).map RE.rv) by
          rw [HTK.out, relKeep_snoc, if_pos HP.out]; exact own_keep HK.out (fun b hb => (hkept.block b (HK.out.lt b hb).2 (fun e => hsep b e hb)).1))
        have hsep2 : ∀ b, v'.ownBlock = some b → vr.ownBlock ≠ some b := fun b hb hl => (hkept.block b (HK.out.lt b hl).2 (fun e => hsep b e hl)).2 hb
        have hbel2 := (below_drewN hbel nq).trans hb4
        clear hown' hb4 hkept
        go_wp2_with fail
        go_roundw
        case rel => exact ⟨k + 1, v', vr, hlt, rfl, rfl, by go_num, hbel2, hsep2, HO2, HK2⟩
        case measure => simp [intOf] <;> omega
      · as_aux_lemma =>
        have hd1 : decide (at1 < D.mark) = false := by simp; omega
        have HP := Lib.hid (show relP D ⟨.slice (some ⟨b9, o9, none⟩) row.length c1, row⟩ = false by unfold relP; rw [HAT.out]; exact hd1)
        clear hlate
        go_wp2_with fail
        go_quiet (fail)
        go_wp2_with (at_builtin; refine append_own2 (wr.drewN nq) rfl (.tmp 33) (.tmp 35) 28 rfl w.heap.size 37 underR infoR rfl (by decide) _ _ _ [.slice (some ⟨b9, o9, none⟩) row.length c1] rfl (own_keep HK.out (fun _ _ => rfl)) rfl rfl (by simp [Value.oneCell']) (by have := HLK.out; omega) (by decide) hs2 ?_)
        intro v' w4 hown' hb4 hkept
        have HK2 := Lib.hid (show w4.ownsRow w.heap.size 37 1 v' (relKeep D (ws.take (k + 1))).length ((relKeep D (ws.take (k + 1))).map RE.rv) by
          rw [HTK.out, relKeep_snoc, if_neg (by rw [HP.out]; decide), List.length_append, List.map_append]; exact hown')
        have HO2 := Lib.hid (show w4.ownsRow w.heap.size 37 1 vo (relOut D (ws.take (k + 1))).length ((relOut D (ws.take (k + 1))).map RE.rv) by
          rw [HTK.out, relOut_snoc, if_neg (by rw [HP.out]; decide)]; exact own_keep HO.out (fun b hb => (hkept.block b (HO.out.lt b hb).2 (hsep b hb)).1))
        have hsep2 : ∀ b, vo.ownBlock = some b → v'.ownBlock ≠ some b := fun b hb => (hkept.block b (HO.out.lt b hb).2 (hsep b hb)).2
        have hbel2 := (below_drewN hbel nq).trans hb4
        clear hown' hb4 hkept
        go_wp2_with fail
        go_roundw
        case rel => exact ⟨k + 1, vo, v', hlt, rfl, rfl, by go_num, hbel2, hsep2, HO2, HK2⟩
        case measure => simp [intOf] <;> omega
    · as_aux_lemma =>
      obtain rfl : k = n := by omega
      have htk : ws.take k = ws := List.take_of_length_le (by rw [HN.out]; omega)
      rw [htk] at HO HK
      have HWt := Lib.hid (HS.out.setWait hbel hbase HK.out (fun e he => (List.mem_filter.1 he).1))
      have hvo : vo.ownBlock ≠ some g := fun e => by
        have := (HO.out.lt g e).1
        omega
      have HRR := Lib.hid (show RR (wr.setCell ⟨g, 4, none⟩ vr) (fun _ => True) (fun _ => True) vo (relOut D ws) from
        ⟨(SL.of_own (ownsRow_setCell_other HO.out (a := ⟨g, 4, none⟩) hvo vr)).mono (fun _ _ _ => trivial), fun e he =>
          (HS.out.rows e (.inl (List.mem_filter.1 he).1)).keep (by simpa using hbel.size) (fun b hb' hlt => ⟨(Below.heap_setCell _ _ _ _ (show b ≠ g from fun e => hb'.2 (.inl e))).trans (hbel.block b hlt), trivial⟩)⟩)
      have hlo : (relOut D ws).length < 1073741824 := by
        have := List.length_filter_le (relP D) ws
        have e : relOut D ws = ws.filter (relP D) := rfl
        rw [e]
        rw [HN.out] at this
        omega
      have HX := Lib.hid (show Tab.Ext (fun b => b = g) w (wr.setCell ⟨g, 4, none⟩ vr) from Tab.Ext.setCell (M := fun b => b = g) (p := ⟨g, 4, none⟩) (Tab.Ext.of_below hbel) (.inl rfl) vr)
      have fz := (HS.out.gm.blk.below hbel hgl).frozen 4
      have hgl2 := (HS.out.gm.blk.below hbel hgl).lt
      obtain ⟨_, Ar, cr, er, _, _, _⟩ := SL.of_own HK.out
      subst er
      have HON := Lib.hid (fun W => ones_any (fun _ => True) (fun _ => True) vo (relOut D ws) W)
      clear q
      go_wp2_with fail
      generalize hW : wr.setCell ⟨g, 4, none⟩ (.slice Ar _ cr) = W at *
      refine (HON.out W HRR.out hlo).mono ?_
      rintro e w1 ⟨v1, rfl, ho1, hb1⟩
      have HB1 := Lib.hid hb1
      have HRD := Lib.hid ho1.rd
      go_wp2_with fail
      refine (canonical_any _ _ v1 _ w1 HRD.out (by unfold onesOf; rw [List.length_map]; exact hlo) (by rw [dcells_absN]; omega)).mono ?_
      rintro e w2 ⟨v2, out, rfl, ho2, hc2, hb2⟩
      obtain ⟨_, Al, cl, e, g1, g2, _⟩ := SL.of_own ho2.own
      subst e
      have HCL := Lib.hid (fun W => clipD_any Al out.length cl (SL.of_own ho2.own).none_zero g1 g2 W)
      have HO2 := Lib.hid ho2
      have HC2 := Lib.hid hc2
      have hbw := HB1.out.trans (hb2.mono HB1.out.size)
      clear ho1 ho2 hc2
      go_wp2_with fail
      refine (HCL.out _).mono ?_
      rintro e w3 ⟨rfl, rfl⟩
      go_wp2_with fail
      go_ret
      exact ⟨_, out, _, rfl, HX.out.trans (Tab.Ext.of_below hbw), HWt.out.later hbw, ⟨(HO2.out.rd.sl.clip.mono fun _ _ _ => trivial), fun d hd => ⟨(HO2.out.rd.good d hd).row.mono (fun _ _ _ => trivial), (HO2.out.rd.good d hd).n⟩⟩, HC2.out⟩
end Go.Proofs.YthejmnmkbldacaaDoor

namespace Go.Proofs.YthejmnmkbldacaaDoor
open Go.RowKit Go.Deep

/-- the types and places of a struct's fields -/
def fieldsOf (P : Program) (t : TypeId) : Option (List (TypeId × Nat)) :=
  match P.underlying t with
  | some (.struct fs) => some (fs.toList.map fun f => (f.type, f.offset))
  | _ => none
section
variable {H : Type} {enc : TypeId × Value → H} {P : Program} {w : World} {base : Nat} {spare : Nat → Bool} {held : Bool}
theorem trod_fields {t : TypeId} {l : List (TypeId × Nat)} {fuel : Nat} {cs : List Value} {x : DataW H × List MemPlace} (hf : fieldsOf P t = some l) (h : DataW.trod enc P w base spare held fuel t cs = some x) :
    ∃ (xs : List (DataW H × List MemPlace)) (n : Nat), fuel = n + 1 ∧ x = (.agg (xs.map (·.1)), xs.flatMap (·.2)) ∧ cs.length = P.cellsOf t ∧ xs.length = l.length ∧
      ∀ (i : Nat) (t' : TypeId) (o : Nat), l[i]? = some (t', o) → DataW.trod enc P w base spare held n t' ((cs.drop o).take (P.cellsOf t')) = xs[i]? := by
  unfold fieldsOf at hf
  split at hf
  · rename_i fs hu
    injection hf with hf
    obtain ⟨xs, n, h1, h2, h3, h4, h5⟩ := DataW.trod_struct hu h
    refine ⟨xs, n, h1, h2, h3, by rw [h4, ← hf]; simp, fun i t' o hi => ?_⟩
    rw [← hf, List.getElem?_map, Option.map_eq_some_iff] at hi
    obtain ⟨f, hf1, hf2⟩ := hi
    injection hf2 with e1 e2
    subst e1
    subst e2
    exact h5 i f (by rw [← Array.getElem?_toList]; exact hf1)
  · cases hf
end
theorem uInt : Tryd.prog.underlying 3 = some (.int .i64) := by kernel_rfl
theorem uStr : Tryd.prog.underlying 9 = some .string := by kernel_rfl
theorem cInt : Tryd.prog.cellsOf 3 = 1 := by kernel_rfl
theorem cStr : Tryd.prog.cellsOf 9 = 1 := by kernel_rfl
theorem cSlV : Tryd.prog.cellsOf 37 = 1 := by kernel_rfl
theorem cSlR : Tryd.prog.cellsOf 28 = 1 := by kernel_rfl
theorem cVal : Tryd.prog.cellsOf 41 = 5 := by kernel_rfl
theorem fVal : fieldsOf Tryd.prog 41 = some [(3, 0), (3, 1), (3, 2), (9, 3), (37, 4)] := by kernel_rfl
theorem cOp : Tryd.prog.cellsOf 30 = 3 := by kernel_rfl
theorem fOp : fieldsOf Tryd.prog 30 = some [(3, 0), (3, 1), (28, 2)] := by kernel_rfl
theorem uOps : Tryd.prog.underlying 22 = some (.slice 30) := by kernel_rfl

theorem i64_of_wf {n : Int} (h : (Lit.int .i64 n).wf = true) : I64 n := by
  unfold Lit.wf at h
  rw [Bool.and_eq_true] at h
  exact ⟨of_decide_eq_true h.1, of_decide_eq_true h.2⟩

section
variable {H : Type} {enc : TypeId × Value → H} {w : World} {spare : Nat → Bool} {held : Bool}
/-- a value's cells -/
theorem five {α : Type} {l : List α} (h : l.length = 5) : ∃ a b c d e, l = [a, b, c, d, e] := by
  match l, h with
  | [a, b, c, d, e], _ => exact ⟨a, b, c, d, e, rfl⟩
theorem three {α : Type} {l : List α} (h : l.length = 3) : ∃ a b c, l = [a, b, c] := by
  match l, h with
  | [a, b, c], _ => exact ⟨a, b, c, rfl⟩
theorem open_value {fuel : Nat} {cs : List Value} {x : DataW H × List MemPlace} (h : DataW.trod enc Tryd.prog w 0 spare held fuel 41 cs = some x) :
    ∃ (k n sc : Int) (s : ByteArray) (iv : Value) (y : DataW H × List MemPlace) (m : Nat), fuel = m + 1 ∧ cs = [.int .i64 k, .int .i64 n, .int .i64 sc, .string s, iv] ∧ I64 k ∧ I64 n ∧ I64 sc ∧ s.size ≤ maxLen ∧
      DataW.trod enc Tryd.prog w 0 spare held m 37 [iv] = some y ∧ Rows.uptoBulk y.1 ≤ Rows.uptoBulk x.1 := by
  obtain ⟨xs, m, rfl, rfl, hl, hxl, hf⟩ := trod_fields fVal h
  rw [cVal] at hl
  obtain ⟨x0, x1, x2, x3, x4, rfl⟩ := five hxl
  obtain ⟨c0, c1, c2, c3, c4, rfl⟩ := five hl
  have f0 := hf 0 _ _ rfl
  have f1 := hf 1 _ _ rfl
  have f2 := hf 2 _ _ rfl
  have f3 := hf 3 _ _ rfl
  have f4 := hf 4 _ _ rfl
  rw [cInt] at f0 f1 f2
  rw [cStr] at f3
  rw [cSlV] at f4
  obtain ⟨k, e0, _, w0⟩ := DataW.trod_int uInt f0
  obtain ⟨n, e1, _, w1⟩ := DataW.trod_int uInt f1
  obtain ⟨sc, e2, _, w2⟩ := DataW.trod_int uInt f2
  obtain ⟨s, e3, _, w3⟩ := DataW.trod_string uStr f3
  simp at e0 e1 e2 e3
  subst e0 e1 e2 e3
  refine ⟨k, n, sc, s, c4, x4, m, rfl, rfl, i64_of_wf w0, i64_of_wf w1, i64_of_wf w2, w3, f4, ?_⟩
  simp only [List.map_cons, List.map_nil, Rows.uptoBulk, Rows.uptoBulkAll]
  omega

theorem bulk_part {d : DataW H} {l : List (DataW H)} (h : d ∈ l) : Rows.uptoBulk d ≤ Rows.uptoBulkAll l := by
  induction l with
  | nil => cases h
  | cons x r ih =>
    simp only [Rows.uptoBulkAll]
    cases List.mem_cons.1 h with
    | inl e => subst e; omega
    | inr e => have := ih e; omega
theorem bulk_one (d : DataW H) : 1 ≤ Rows.uptoBulk d := by
  cases d with
  | lit l => cases l <;> simp [Rows.uptoBulk]
  | nil => simp [Rows.uptoBulk]
  | ptr d => simp [Rows.uptoBulk]
  | slice elems spare => simp [Rows.uptoBulk]
  | agg parts => simp [Rows.uptoBulk]
  | iface t d => simp [Rows.uptoBulk]
  | map entries => simp [Rows.uptoBulk]
  | held h => simp [Rows.uptoBulk]
theorem bulk_len (l : List (DataW H)) : l.length ≤ Rows.uptoBulkAll l := by
  induction l with
  | nil => simp [Rows.uptoBulkAll]
  | cons x r ih => have := bulk_one x; simp only [Rows.uptoBulkAll, List.length_cons]; omega

/-- a slice's elements, with their cells -/
theorem open_elems {t e : TypeId} {c : Nat} (ht : Tryd.prog.underlying t = some (.slice e)) (hc : Tryd.prog.cellsOf e = c) {fuel : Nat} {cs : List Value} {x : DataW H × List MemPlace} (h : DataW.trod enc Tryd.prog w 0 spare held fuel t cs = some x) :
    cs = [.slice none 0 0] ∨ ∃ (a : Addr) (len cap : Nat) (elems : List (DataW H × List MemPlace)) (n : Nat), fuel = n + 1 ∧ cs = [.slice (some a) len cap] ∧ len ≤ cap ∧ cap ≤ maxLen ∧ elems.length = len ∧ Rows.uptoBulkAll (elems.map (·.1)) + 1 ≤ Rows.uptoBulk x.1 ∧
      ∀ i, i < len → ∃ cs' y, elems[i]? = some y ∧ cs'.length = c ∧ (∀ j, j < c → w.cell? (a.add (i * c + j)) = cs'[j]?) ∧ DataW.trod enc Tryd.prog w 0 spare held n e cs' = some y := by
  rcases DataW.trod_slice ht h with ⟨h0, _⟩ | ⟨a, len, cap, elems, rest, n, rfl, rfl, rfl, _, hl, hm, hlen, hel, _, _⟩
  · exact .inl h0
  right
  refine ⟨a, len, cap, elems, n, rfl, rfl, hl, hm, hlen, by simp only [Rows.uptoBulk]; omega, fun i hi => ?_⟩
  have key := hel i hi
  rw [List.getElem?_eq_getElem (by omega)] at key
  obtain ⟨cs', h1, h2⟩ := Option.bind_eq_some_iff.1 key
  obtain ⟨_, h3, h4⟩ := World.cells?_some h1
  rw [hc] at h3 h4
  exact ⟨cs', elems[i], List.getElem?_eq_getElem (by omega), h3, fun j hj => by rw [← h4 j hj, add_add], h2⟩

theorem lt_of_cell {a : Addr} {v : Value} (h : w.cell? a = some v) : a.block < w.heap.size := by
  unfold World.cell? at h
  cases hh : w.heap[a.block]? with
  | none => rw [hh] at h; simp at h
  | some o => exact (Array.getElem?_eq_some_iff.1 hh).1

theorem addr_spot {a : Addr} {v : Value} (h : w.cell? (a.add 0) = some v) : a.spot = none ∧ a.block < w.heap.size := by
  rw [show a.add 0 = a by simp [Addr.add]] at h
  exact ⟨World.cell?_spot h, lt_of_cell h⟩
theorem addr_add {a : Addr} (h : a.spot = none) (k j : Nat) : a.add (k + j) = ⟨a.block, a.off + k + j, none⟩ := by
  obtain ⟨b, o, sp⟩ := a
  simp only at h
  subst h
  unfold Addr.add
  split
  · simp only [Addr.mk.injEq, and_true, true_and]
    omega
  · simp only [Addr.mk.injEq, and_true, true_and]
    omega
theorem smL_of : ∀ {l : List VD}, (∀ y, y ∈ l → smV y) → smL l
  | [], _ => trivial
  | a :: l, h => ⟨h a (by simp), smL_of fun y hy => h y (List.mem_cons_of_mem _ hy)⟩

/-- what reads as a list of values -/
theorem open_row : ∀ (fuel : Nat) (cs : List Value) (x : DataW H × List MemPlace), DataW.trod enc Tryd.prog w 0 spare held fuel 37 cs = some x →
    ∃ (v : Value) (l : List VD), cs = [v] ∧ RI w (fun b => b < w.heap.size) v l ∧ (Rows.uptoBulk x.1 ≤ 1048576 → l.length < 1073741824 ∧ ∀ y, y ∈ l → smV y) := by
  intro fuel
  induction fuel using Nat.strongRecOn with
  | _ fuel ih =>
    intro cs x h
    rcases open_elems underV cVal h with rfl | ⟨a, len, cap, elems, n, rfl, rfl, hl, hm, hlen, hbulk, hel⟩
    · exact ⟨_, [], rfl, RI.nil _ _, fun _ => ⟨by simp, fun y hy => by cases hy⟩⟩
    · have hspot : 0 < len → a.spot = none ∧ a.block < w.heap.size := fun h0 => by
        obtain ⟨cs', y, hy, hcl, hcell, ht⟩ := hel 0 h0
        obtain ⟨k, nn, sc, s, iv, z, m, rfl, rfl, _⟩ := open_value ht
        have c0 := hcell 0 (by omega)
        rw [Nat.zero_mul, Nat.zero_add] at c0
        exact addr_spot c0
      have hx : ∀ i, i < len → ∃ p : VD × Option Addr × Nat, CellsV w a.block (a.off + i * 5) p.1 p.2.1 p.2.2 ∧ (a.spot = none ∧ a.block < w.heap.size) ∧ p.1.ok ∧ RI w (fun b => b < w.heap.size) (.slice p.2.1 p.1.items.length p.2.2) p.1.items ∧ (Rows.uptoBulk x.1 ≤ 1048576 → smV p.1) := by
        intro i hi
        obtain ⟨cs', y, hy, hcl, hcell, ht⟩ := hel i hi
        obtain ⟨k, nn, sc, s, iv, z, m, rfl, rfl, ok0, ok1, ok2, ok3, hz, hbz⟩ := open_value ht
        obtain ⟨v, li, e, hri, hsm⟩ := ih m (by omega) _ _ hz
        injection e with e
        subst e
        obtain ⟨A, c, _, _, e, _⟩ := hri.shape
        subst e
        obtain ⟨hsp, hlt⟩ := hspot (by omega)
        have hadd := addr_add hsp (i * 5)
        refine ⟨(.mk k nn sc s li, A, c), ⟨?_, ?_, ?_, ?_, ?_⟩, ⟨hsp, hlt⟩, ⟨ok0, ok1, ok2, ok3⟩, hri, fun hb => ?_⟩
        · exact (congrArg w.cell? (hadd 0)).symm.trans (hcell 0 (by omega))
        · exact (congrArg w.cell? (hadd 1)).symm.trans (hcell 1 (by omega))
        · exact (congrArg w.cell? (hadd 2)).symm.trans (hcell 2 (by omega))
        · exact (congrArg w.cell? (hadd 3)).symm.trans (hcell 3 (by omega))
        · exact (congrArg w.cell? (hadd 4)).symm.trans (hcell 4 (by omega))
        · have h1 : Rows.uptoBulk y.1 ≤ Rows.uptoBulkAll (elems.map (·.1)) := bulk_part (List.mem_map.2 ⟨y, List.mem_of_getElem? hy, rfl⟩)
          have := hsm (by omega)
          exact ⟨this.1, smL_of this.2⟩
      obtain ⟨f, hf⟩ := choose_lt (α := VD × Option Addr × Nat) hx
      have hat : ∀ i, i < len → at_ ((List.range len).map fun i => (f i).1) i = (f i).1 := fun i hi => by
        unfold at_
        rw [List.getD_eq_getElem?_getD]
        simp [hi]
      have hll : ((List.range len).map fun i => (f i).1).length = len := by simp
      refine ⟨_, (List.range len).map fun i => (f i).1, rfl, ?_, fun hb => ⟨?_, fun y hy => ?_⟩⟩
      · have := RI.mk (w := w) (F := fun b => b < w.heap.size) (some a) cap ((List.range len).map fun i => (f i).1) (fun i => (f i).2.1) (fun i => (f i).2.2) (by rw [hll]; exact hl) hm ?_ ?_ ?_
        · rw [hll] at this
          exact this
        · intro hpos
          rw [hll] at hpos
          obtain ⟨_, ⟨hsp, hlt⟩, _⟩ := hf 0 hpos
          refine ⟨a.block, a.off, by obtain ⟨b, o, sp⟩ := a; simp only at hsp; subst hsp; rfl, hlt, hlt, fun i hi => ?_⟩
          rw [hll] at hi
          rw [hat i hi]
          exact (hf i hi).1
        · intro i hi
          rw [hll] at hi
          rw [hat i hi]
          exact (hf i hi).2.2.1
        · intro i hi
          rw [hll] at hi
          rw [hat i hi]
          exact (hf i hi).2.2.2.1
      · have := bulk_len (elems.map (·.1))
        rw [List.length_map] at this
        rw [hll]
        omega
      · obtain ⟨i, hi, rfl⟩ := List.mem_map.1 hy
        exact (hf i (List.mem_range.1 hi)).2.2.2.2 hb
end
end Go.Proofs.YthejmnmkbldacaaDoor

namespace Go.Proofs.YthejmnmkbldacaaDoor
open Go.RowKit Go.Deep

/-- an operation of a gate, as it lies in memory -/
structure OpE where
  kind : Int
  src : Int
  rv : Value
  rows : List RE
instance : Inhabited OpE := ⟨⟨0, 0, undef, []⟩⟩
/-- no list in the rows is long -/
def smR (l : List RE) : Prop := ∀ e, e ∈ l → e.row.length < 1073741824 ∧ ∀ x, x ∈ e.row → smV x
structure OpsI (w : World) (v : Value) (l : List OpE) : Prop where
  shape : ∃ A c, v = .slice A l.length c ∧ l.length ≤ c ∧ c ≤ maxLen ∧ ∀ i, i < l.length → ∃ b off, A = some ⟨b, off, none⟩ ∧ b < w.heap.size ∧
    w.cell? ⟨b, off + i * 3, none⟩ = some (.int .i64 (dat l i).kind) ∧ w.cell? ⟨b, off + i * 3 + 1, none⟩ = some (.int .i64 (dat l i).src) ∧ w.cell? ⟨b, off + i * 3 + 2, none⟩ = some (dat l i).rv
  rows : ∀ o, o ∈ l → RR w (fun b => b < w.heap.size) (fun b => b < w.heap.size) o.rv o.rows
/-- how many rows there are -/
def rowsIn (l : List OpE) : Nat := (l.map fun o => o.rows.length).sum

section
variable {H : Type} {enc : TypeId × Value → H} {w : World} {spare : Nat → Bool} {held : Bool}
theorem dat_range {α : Type} [Inhabited α] (f : Nat → α) (len : Nat) {i : Nat} (hi : i < len) : dat ((List.range len).map f) i = f i := by
  unfold dat
  rw [List.getD_eq_getElem?_getD]
  simp [hi]
theorem bulk_sum : ∀ (xs : List (DataW H)) (g : Nat → Nat), (∀ i (h : i < xs.length), g i ≤ Rows.uptoBulk xs[i]) → ((List.range xs.length).map g).sum ≤ Rows.uptoBulkAll xs
  | [], _, _ => by simp
  | x :: xs, g, h => by
    have h0 := h 0 (by simp)
    have h1 := bulk_sum xs (fun i => g (i + 1)) (fun i hi => h (i + 1) (by simpa using hi))
    rw [List.length_cons, List.range_succ_eq_map, List.map_cons, List.sum_cons, List.map_map]
    simp only [Rows.uptoBulkAll]
    simp only [List.getElem_cons_zero] at h0
    have : (List.map (g ∘ Nat.succ) (List.range xs.length)).sum = ((List.range xs.length).map fun i => g (i + 1)).sum := rfl
    omega

/-- what reads as a list of rows -/
theorem open_rows {fuel : Nat} {cs : List Value} {x : DataW H × List MemPlace} (h : DataW.trod enc Tryd.prog w 0 spare held fuel 28 cs = some x) :
    ∃ (v : Value) (l : List RE), cs = [v] ∧ RR w (fun b => b < w.heap.size) (fun b => b < w.heap.size) v l ∧ l.length ≤ Rows.uptoBulk x.1 ∧ (Rows.uptoBulk x.1 ≤ 1048576 → smR l) := by
  rcases open_elems underR cSlV h with rfl | ⟨a, len, cap, elems, n, rfl, rfl, hl, hm, hlen, hbulk, hel⟩
  · exact ⟨_, [], rfl, RR.nil _ _ _, Nat.zero_le _, fun _ e he => by cases he⟩
  · have hspot : 0 < len → a.spot = none ∧ a.block < w.heap.size := fun h0 => by
      obtain ⟨cs', y, hy, hcl, hcell, ht⟩ := hel 0 h0
      obtain ⟨v, li, rfl, _⟩ := open_row _ _ _ ht
      have c0 := hcell 0 (by omega)
      rw [Nat.zero_mul, Nat.zero_add] at c0
      exact addr_spot c0
    have hx : ∀ i, i < len → ∃ e : RE, w.cell? ⟨a.block, a.off + i, none⟩ = some e.rv ∧ RI w (fun b => b < w.heap.size) e.rv e.row ∧ (Rows.uptoBulk x.1 ≤ 1048576 → e.row.length < 1073741824 ∧ ∀ x, x ∈ e.row → smV x) := by
      intro i hi
      obtain ⟨cs', y, hy, hcl, hcell, ht⟩ := hel i hi
      obtain ⟨v, li, rfl, hri, hsm⟩ := open_row _ _ _ ht
      obtain ⟨hsp, hlt⟩ := hspot (by omega)
      refine ⟨⟨v, li⟩, ?_, hri, fun hb => ?_⟩
      · have := (congrArg w.cell? (addr_add hsp (i * 1) 0)).symm.trans (hcell 0 (by omega))
        simpa using this
      · have h1 : Rows.uptoBulk y.1 ≤ Rows.uptoBulkAll (elems.map (·.1)) := bulk_part (List.mem_map.2 ⟨y, List.mem_of_getElem? hy, rfl⟩)
        exact hsm (by omega)
    obtain ⟨f, hf⟩ := choose_lt (α := RE) hx
    have hll : ((List.range len).map f).length = len := by simp
    refine ⟨_, (List.range len).map f, rfl, ⟨⟨by simp, some a, cap, by rw [hll], by rw [hll]; exact hl, hm, fun h0 => ?_⟩, fun e he => ?_⟩, ?_, fun hb e he => ?_⟩
    · rw [hll] at h0
      obtain ⟨hsp, hlt⟩ := hspot h0
      refine ⟨a.block, a.off, by obtain ⟨b, o, sp⟩ := a; simp only at hsp; subst hsp; rfl, hlt, hlt, fun j u hj => ?_⟩
      rw [List.map_map, List.getElem?_map, Option.map_eq_some_iff] at hj
      obtain ⟨i, hi, rfl⟩ := hj
      obtain ⟨h1, h2⟩ := List.getElem?_eq_some_iff.1 hi
      simp at h1 h2
      subst h2
      exact (hf j h1).1
    · obtain ⟨i, hi, rfl⟩ := List.mem_map.1 he
      exact (hf i (List.mem_range.1 hi)).2.1
    · have := bulk_len (elems.map (·.1))
      rw [List.length_map] at this
      rw [hll]
      omega
    · obtain ⟨i, hi, rfl⟩ := List.mem_map.1 he
      exact (hf i (List.mem_range.1 hi)).2.2 hb

/-- what reads as a list of operations -/
theorem open_ops {fuel : Nat} {cs : List Value} {x : DataW H × List MemPlace} (h : DataW.trod enc Tryd.prog w 0 spare held fuel 22 cs = some x) :
    ∃ (v : Value) (l : List OpE), cs = [v] ∧ OpsI w v l ∧ rowsIn l ≤ Rows.uptoBulk x.1 ∧ (Rows.uptoBulk x.1 ≤ 1048576 → ∀ o, o ∈ l → smR o.rows) ∧ (∀ o, o ∈ l → I64 o.kind ∧ I64 o.src) ∧ l.length ≤ Rows.uptoBulk x.1 := by
  rcases open_elems uOps cOp h with rfl | ⟨a, len, cap, elems, n, rfl, rfl, hl, hm, hlen, hbulk, hel⟩
  · exact ⟨_, [], rfl, ⟨⟨none, 0, rfl, Nat.le_refl _, Nat.zero_le _, fun i hi => absurd hi (Nat.not_lt_zero i)⟩, fun o ho => (List.not_mem_nil ho).elim⟩, Nat.zero_le _, fun _ o ho => (List.not_mem_nil ho).elim, fun o ho => (List.not_mem_nil ho).elim, Nat.zero_le _⟩
  · have hval : ∀ {n : Nat} {cs : List Value} {y : DataW H × List MemPlace}, DataW.trod enc Tryd.prog w 0 spare held n 30 cs = some y → ∃ (k s : Int) (rv : Value) (l : List RE), cs = [.int .i64 k, .int .i64 s, rv] ∧ I64 k ∧ I64 s ∧
        RR w (fun b => b < w.heap.size) (fun b => b < w.heap.size) rv l ∧ l.length ≤ Rows.uptoBulk y.1 ∧ (Rows.uptoBulk y.1 ≤ 1048576 → smR l) := by
      intro n cs y hy
      obtain ⟨xs, m, rfl, rfl, hl, hxl, hf⟩ := trod_fields fOp hy
      rw [cOp] at hl
      obtain ⟨x0, x1, x2, rfl⟩ := three hxl
      obtain ⟨c0, c1, c2, rfl⟩ := three hl
      have f0 := hf 0 _ _ rfl
      have f1 := hf 1 _ _ rfl
      have f2 := hf 2 _ _ rfl
      rw [cInt] at f0 f1
      rw [cSlR] at f2
      obtain ⟨k, e0, _, w0⟩ := DataW.trod_int uInt f0
      obtain ⟨s, e1, _, w1⟩ := DataW.trod_int uInt f1
      obtain ⟨rv, l, e2, hrr, hll, hsm⟩ := open_rows f2
      simp at e0 e1 e2
      subst e0 e1 e2
      have hb : Rows.uptoBulk x2.1 ≤ Rows.uptoBulk (DataW.agg (List.map (fun x => x.1) [x0, x1, x2])) := by
        simp only [List.map_cons, List.map_nil, Rows.uptoBulk, Rows.uptoBulkAll]
        omega
      exact ⟨k, s, c2, l, rfl, i64_of_wf w0, i64_of_wf w1, hrr, Nat.le_trans hll hb, fun h => hsm (Nat.le_trans hb h)⟩
    have hspot : 0 < len → a.spot = none ∧ a.block < w.heap.size := fun h0 => by
      obtain ⟨cs', y, hy, hcl, hcell, ht⟩ := hel 0 h0
      obtain ⟨k, s, rv, li, rfl, _⟩ := hval ht
      have c0 := hcell 0 (by omega)
      rw [Nat.zero_mul, Nat.zero_add] at c0
      exact addr_spot c0
    have hx : ∀ i, i < len → ∃ o : OpE, (w.cell? ⟨a.block, a.off + i * 3, none⟩ = some (.int .i64 o.kind) ∧ w.cell? ⟨a.block, a.off + i * 3 + 1, none⟩ = some (.int .i64 o.src) ∧ w.cell? ⟨a.block, a.off + i * 3 + 2, none⟩ = some o.rv) ∧ RR w (fun b => b < w.heap.size) (fun b => b < w.heap.size) o.rv o.rows ∧
        (∀ h : i < (elems.map (·.1)).length, o.rows.length ≤ Rows.uptoBulk (elems.map (·.1))[i]) ∧ (Rows.uptoBulk x.1 ≤ 1048576 → smR o.rows) ∧ I64 o.kind ∧ I64 o.src := by
      intro i hi
      obtain ⟨cs', y, hy, hcl, hcell, ht⟩ := hel i hi
      obtain ⟨k, s, rv, li, rfl, ok0, ok1, hrr, hll, hsm⟩ := hval ht
      obtain ⟨hsp, hlt⟩ := hspot (by omega)
      have hadd := addr_add hsp (i * 3)
      refine ⟨⟨k, s, rv, li⟩, ⟨(congrArg w.cell? (hadd 0)).symm.trans (hcell 0 (by omega)), (congrArg w.cell? (hadd 1)).symm.trans (hcell 1 (by omega)), (congrArg w.cell? (hadd 2)).symm.trans (hcell 2 (by omega))⟩, hrr, fun h => ?_, fun hb => ?_, ok0, ok1⟩
      · have : (elems.map (·.1))[i]? = some y.1 := by rw [List.getElem?_map, hy]; rfl
        rw [Option.some.inj ((List.getElem?_eq_getElem h).symm.trans this)]
        exact hll
      · have h1 : Rows.uptoBulk y.1 ≤ Rows.uptoBulkAll (elems.map (·.1)) := bulk_part (List.mem_map.2 ⟨y, List.mem_of_getElem? hy, rfl⟩)
        exact hsm (by omega)
    obtain ⟨f, hf⟩ := choose_lt (α := OpE) hx
    have hll : ((List.range len).map f).length = len := by simp
    refine ⟨_, (List.range len).map f, rfl, ⟨⟨some a, cap, by rw [hll], by rw [hll]; exact hl, hm, fun i hi => ?_⟩, fun o ho => ?_⟩, ?_, fun hb o ho => ?_, fun o ho => ?_, ?_⟩
    · rw [hll] at hi
      obtain ⟨hsp, hlt⟩ := hspot (by omega)
      rw [dat_range f len hi]
      exact ⟨a.block, a.off, by obtain ⟨b, o, sp⟩ := a; simp only at hsp; subst hsp; rfl, hlt, (hf i hi).1⟩
    · obtain ⟨i, hi, rfl⟩ := List.mem_map.1 ho
      exact (hf i (List.mem_range.1 hi)).2.1
    · have := bulk_sum (elems.map (·.1)) (fun i => (f i).rows.length) (fun i hi => (hf i (by simpa [hlen] using hi)).2.2.1 hi)
      rw [List.length_map, hlen] at this
      have e : rowsIn ((List.range len).map f) = ((List.range len).map fun i => (f i).rows.length).sum := by
        unfold rowsIn
        rw [List.map_map]
        rfl
      omega
    · obtain ⟨i, hi, rfl⟩ := List.mem_map.1 ho
      exact (hf i (List.mem_range.1 hi)).2.2.2.1 hb
    · obtain ⟨i, hi, rfl⟩ := List.mem_map.1 ho
      exact (hf i (List.mem_range.1 hi)).2.2.2.2
    · have := bulk_len (elems.map (·.1))
      rw [List.length_map] at this
      rw [hll]
      omega
end
end Go.Proofs.YthejmnmkbldacaaDoor

namespace Go.Proofs.YthejmnmkbldacaaDoor
open Go.RowKit
attribute [local go_sem] Tab.Env.ev Tab.Env.get

set_option maxHeartbeats 1000000 in
theorem growD_any (n : Nat) (hn : n < 1073741824) (w : World) :
    Calls Tryd.prog 111 #[.slice none 0 0, .int .i64 n] w fun e w' => ∃ v', e = .returned v' ∧ w'.ownsRow w.heap.size 39 2 v' 0 [] ∧ Below w.heap.size w w' := by
  obtain ⟨i0, hi, hz0, hz1, hz2⟩ := info_parts infoD
  have h1 : ¬ ((n : Int) < 0) := by omega
  rcases Nat.eq_zero_or_pos n with h0 | h0
  · subst h0
    go_enter Tryd.func111, Tryd.ntmps111
    go_wp2_with fail
    go_ret
    exact ⟨_, rfl, World.ownsRow_nil _ _ _ _, Below.refl _ _⟩
  · have hrz : ∀ ty, (Builtin.append_ #[35, 3] ty #[.slice none 0 0, .int .i64 (n : Int)]).run Tryd.prog w =
        .ok (.slice (some ⟨w.heap.size, 0, none⟩) n (grownCap w n 0 39)) (w.drew.alloc (.cells (#[] ++ Builtin.zeroCells (Value.agg #[.slice none 0 0, .int .i64 0]).cells n ++ Builtin.zeroCells (Value.agg #[.slice none 0 0, .int .i64 0]).cells (grownCap w n 0 39 - n)) 39)) := fun ty => by
      have h := Lib.run_append_grow_zeros w 35 3 ty 39 i0 (.agg #[.slice none 0 0, .int .i64 0]) .i64 .i64 underD (by kernel_rfl) hi hz0 none 0 0 [] (run_firstCells_none (P := Tryd.prog) w.drew i0.size 0 0 0) n (by omega) (by rw [hz1]; decide) (by omega) (by omega)
        (by rw [hz2]; omega)
        (growslice_fits (by omega) (by rw [hz2]; omega))
      simpa using h
    have hge := grownCap_ge w n 0 39
    have hcm := grownCap_le_maxLen w n 0 39 (by unfold maxLen; omega)
    generalize grownCap w n 0 39 = G at *
    have hown : (w.drew.alloc (.cells (#[] ++ Builtin.zeroCells (Value.agg #[.slice none 0 0, .int .i64 0]).cells n ++ Builtin.zeroCells (Value.agg #[.slice none 0 0, .int .i64 0]).cells (G - n)) 39)).ownsRow w.heap.size 39 2 (.slice (some ⟨w.heap.size, 0, none⟩) 0 G) 0 [] := by
      refine ⟨rfl, .inr ⟨w.heap.size, G, _, rfl, Nat.le_refl _, heap_alloc_new w.drew _, Nat.zero_le _, hcm, ?_, rfl⟩⟩
      simp only [Array.size_append, size_zeroCells]
      simp [Value.cells]
      omega
    have HOWN := Lib.hid hown
    have hG : G ≤ 9223372036854775807 := hcm
    have hbel : Below w.heap.size w (w.drew.alloc (.cells (#[] ++ Builtin.zeroCells (Value.agg #[.slice none 0 0, .int .i64 0]).cells n ++ Builtin.zeroCells (Value.agg #[.slice none 0 0, .int .i64 0]).cells (G - n)) 39)) := (Below.refl _ _).drew.alloc (Nat.le_refl _) _
    generalize w.drew.alloc (.cells (#[] ++ Builtin.zeroCells (Value.agg #[.slice none 0 0, .int .i64 0]).cells n ++ Builtin.zeroCells (Value.agg #[.slice none 0 0, .int .i64 0]).cells (G - n)) 39) = W at *
    clear hown hcm
    go_enter Tryd.func111, Tryd.ntmps111
    go_wp2_with (at_builtin; refine Lib.wpList_append_run _ rfl _ _ _ _ rfl _ _ rfl rfl _ _ (hrz _) ?_)
    go_ret
    exact ⟨_, rfl, HOWN.out, hbel⟩

set_option maxHeartbeats 2000000 in
theorem concatD_any (F1 F2 : Nat → Prop) (v1 v2 : Value) (l1 l2 : List Value) (n1 n2 : Nat) (g : Nat) (w : World) (hb : Blk w g 35 [v1, v2]) (h1 : SL w F1 2 v1 n1 l1) (h2 : SL w F2 2 v2 n2 l2) (o1 : ∀ u ∈ l1, u.oneCell' = true) (o2 : ∀ u ∈ l2, u.oneCell' = true) (hn : n1 + n2 < 1073741824) :
    Calls Tryd.prog 67 #[.slice (some ⟨g, 0, none⟩) 2 2] w fun e w' => ∃ v', e = .returned v' ∧ w'.ownsRow w.heap.size 39 2 v' (n1 + n2) (l1 ++ l2) ∧ Below w.heap.size w w' := by
  have HS1 := Lib.hid h1
  have HS2 := Lib.hid h2
  have HO1 := Lib.hid o1
  have HO2 := Lib.hid o2
  obtain ⟨-, A1, c1, rfl, g1, g2, -⟩ := h1
  obtain ⟨-, A2, c2, rfl, g3, g4, -⟩ := h2
  have q := wcell2 hb
  have hgl := hb.lt
  have HB := Lib.hid hb
  clear hb o1 o2
  go_enter Tryd.func67, Tryd.ntmps67
  go_wp2_with fail
  refine wp_loop_rounds 3 ?_
  rw [rounds_succ]
  go_wp2_with fail
  rw [rounds_succ]
  go_wp2_with fail
  rw [rounds_succ]
  go_wp2_with fail
  rw [show (n1 : Int) + n2 = ((n1 + n2 : Nat) : Int) by omega]
  refine (growD_any (n1 + n2) hn w).mono ?_
  rintro e w1 ⟨v0, rfl, hown0, hb1⟩
  have HOWN0 := Lib.hid hown0
  have q1 := wcell2 (HB.out.below hb1 hgl)
  have hgl1 : g < w1.heap.size := by have := hb1.size; omega
  have hz1 : w.heap.size ≤ w1.heap.size := hb1.size
  have HB1 := Lib.hid hb1
  clear hown0 hb1 q
  go_wp2_with fail
  refine wp_loop_rounds 3 ?_
  rw [rounds_succ]
  go_wp2_with (at_builtin; refine append_sl w1 rfl (.tmp 31) (.tmp 32) 35 rfl w.heap.size 39 underD infoD rfl (by decide) _ 0 [] l1 rfl HOWN0.out F1 _ n1 rfl (HS1.out.later HB1.out) HO1.out (by omega) (by decide) hz1 ?_)
  intro v1' w2 hown1 hb2
  have HOWN1 := Lib.hid hown1
  have q2 := wcell2 ((HB.out.below HB1.out hgl).below hb2 hgl)
  have hgl2 : g < w2.heap.size := by have := hb2.size; omega
  have hz2 : w.heap.size ≤ w2.heap.size := by have := hb2.size; omega
  have HB2 := Lib.hid (HB1.out.trans hb2)
  clear hown1 hb2 q1
  go_wp2_with fail
  rw [rounds_succ]
  go_wp2_with (at_builtin; refine append_sl w2 rfl (.tmp 31) (.tmp 32) 35 rfl w.heap.size 39 underD infoD rfl (by decide) _ _ _ l2 rfl HOWN1.out F2 _ n2 rfl (HS2.out.later HB2.out) HO2.out (by omega) (by decide) hz2 ?_)
  intro v2' w3 hown2 hb3
  have HOWN2 := Lib.hid hown2
  have q3 := wcell2 ((HB.out.below HB2.out hgl).below hb3 hgl)
  have hgl3 : g < w3.heap.size := by have := hb3.size; omega
  have HB3 := Lib.hid (HB2.out.trans hb3)
  clear hown2 hb3 q2
  go_wp2_with fail
  rw [rounds_succ]
  go_wp2_with fail
  go_ret
  refine ⟨_, rfl, ?_, HB3.out⟩
  have := HOWN2.out
  simpa using this
end Go.Proofs.YthejmnmkbldacaaDoor

namespace Go.Proofs.YthejmnmkbldacaaDoor
open Go.RowKit
attribute [local go_sem] Tab.Env.ev Tab.Env.get

/-- no row in it is long -/
def SmD (l : List DE) : Prop := ∀ d, d ∈ l → d.row.length < 1073741824 ∧ ∀ x, x ∈ d.row → smV x
theorem absN_ranged {l : List DE} (h : rangedB l = true) : absN DE.n l ≤ l.length * 1099511627776 := by
  induction l with
  | nil => simp [absN]
  | cons d l ih =>
    have h1 := List.all_eq_true.1 h
    have h2 := h1 d (by simp)
    have h3 := ih (List.all_eq_true.2 fun x hx => h1 x (List.mem_cons_of_mem _ hx))
    unfold timesB at h2
    simp at h2
    simp only [absN, List.length_cons]
    omega
/-- what summed answers -/
def SummedPost (l : List DE) (w : World) (e : Ending) (w' : World) : Prop :=
  Below w.heap.size w w' ∧ ((e = .returned (.tuple #[.slice none 0 0, .int .i64 3]) ∧ (rangedB l = false ∨ ∃ out, Canon cmpD DE.n setN l out ∧ rangedB out = false)) ∨
    ∃ v' out l', e = .returned (.tuple #[v', .int .i64 0]) ∧ rangedB l = true ∧ Canon cmpD DE.n setN l out ∧ rangedB out = true ∧ SameD out l' ∧ RD w' (fun b => w.heap.size ≤ b) (fun b => w.heap.size ≤ b) v' l')
theorem Canon.sm {l out : List DE} (h : Canon cmpD DE.n setN l out) (hs : SmD l) : SmD out := fun d hd => by
  obtain ⟨e, he, h1⟩ := h.mem d hd
  have := hs e he
  rw [h1]
  exact this

set_option maxHeartbeats 1000000 in
theorem summed_any (F F' : Nat → Prop) (v : Value) (l : List DE) (w : World) (h : RD w F F' v l) (hn : l.length < 4194304) (hsm : SmD l) :
    Calls Tryd.prog 69 #[v] w (SummedPost l w) := by
  have HR := Lib.hid (ranged_any F F' v l w h (by omega))
  have HRD := Lib.hid h
  have HSM := Lib.hid hsm
  clear h hsm
  cases hr : rangedB l with
  | false =>
    rw [hr] at HR
    have HRB := Lib.hid hr
    clear hr
    go_enter Tryd.func69, Tryd.ntmps69
    go_wp2_with fail
    refine HR.out.mono ?_
    rintro e w1 ⟨rfl, hb⟩
    go_wp2_with fail
    go_ret2
    exact ⟨hb, .inl ⟨rfl, .inl HRB.out⟩⟩
  | true =>
    rw [hr] at HR
    have habs : absN DE.n l ≤ 4611686018427387904 := by
      have := absN_ranged hr
      omega
    have HRB := Lib.hid hr
    have HCN := Lib.hid (fun w1 (hb : Below w.heap.size w w1) => canonical_any F F' v l w1 (HRD.out.later hb) (by omega) habs)
    clear hr habs
    go_enter Tryd.func69, Tryd.ntmps69
    go_wp2_with fail
    refine HR.out.mono ?_
    rintro e w1 ⟨rfl, hb⟩
    go_wp2_with fail
    refine (HCN.out w1 hb).mono ?_
    rintro e w2 ⟨v2, out, rfl, o1, o2, o3⟩
    have hb2 := hb.trans (o3.mono hb.size)
    have O1 := Lib.hid o1
    have O2 := Lib.hid o2
    have holen : out.length < 4194304 := by have := o2.len; omega
    have HR2 := Lib.hid (ranged_any _ _ v2 out w2 o1.rd (by omega))
    clear o1 o2 o3 HCN hb
    go_wp2_with fail
    refine HR2.out.mono ?_
    rintro e w3 ⟨rfl, hb3⟩
    have hb4 := hb2.trans (hb3.mono hb2.size)
    cases hr2 : rangedB out with
    | false =>
      have HRB2 := Lib.hid hr2
      clear hr2 hb2 hb3
      go_wp2_with fail
      go_ret2
      exact ⟨hb4, .inl ⟨rfl, .inr ⟨out, O2.out, HRB2.out⟩⟩⟩
    | true =>
      have HRB2 := Lib.hid hr2
      have HCP := Lib.hid (copyDeltas_any _ _ v2 out w3 (O1.out.rd.later hb3) (by omega) (O2.out.sm HSM.out))
      clear hr2 hb2 hb3 HR HR2
      go_wp2_with fail
      refine HCP.out.mono ?_
      rintro e w5 ⟨v5, l5, rfl, p1, p2, p3⟩
      have P := Lib.hid (And.intro (hb4.trans (p3.mono hb4.size)) (And.intro p2 (p1.mono (F2 := fun b => w.heap.size ≤ b) (F2' := fun b => w.heap.size ≤ b) (fun b hb _ => Nat.le_trans hb4.size hb) (fun b hb _ => Nat.le_trans hb4.size hb))))
      clear p1 p2 p3 HCP
      go_wp2_with fail
      go_ret2
      exact ⟨P.out.1, .inr ⟨v5, out, l5, rfl, HRB.out, O2.out, HRB2.out, P.out.2.1, P.out.2.2⟩⟩
end Go.Proofs.YthejmnmkbldacaaDoor
