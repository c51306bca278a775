/-
  What is proved: Between of the program and of the reference. Conditions: fewer than 2^21 rows each, small rows.
  What is proved: the reference's items of rows: comparing by no keys answers 0, cloning a row, the rows of items. Conditions: no list has 2^30 elements or more.
-/
import Derived.Test.YthejmnmkbldacaaGreatDoorAp25
set_option linter.all false
namespace Go.Proofs.YthejmnmkbldacaaGreatDoor
open Go.RowKit
attribute [local go_sem] Tab.Env.ev Tab.Env.get

/-- the first k numbers are set to -1 -/
def negD (l : List RE) (k : Nat) : List DE := ofRowsD (l.take k) (-1) ++ onesOf (l.drop k)
theorem negD_len (l : List RE) (k : Nat) : (negD l k).length = l.length := by
  unfold negD ofRowsD onesOf
  rw [List.length_append, List.length_map, List.length_map, List.length_take, List.length_drop]
  omega
theorem negD_all (l : List RE) : negD l l.length = ofRowsD l (-1) := by
  unfold negD onesOf
  rw [List.take_length, List.drop_length]
  simp
theorem negD_step (l : List RE) (k : Nat) (hk : k < l.length) : (negD l k).set k (setN (dat (negD l k) k) (-1)) = negD l (k + 1) := by
  have h1 : (ofRowsD (l.take k) (-1)).length = k := by unfold ofRowsD; rw [List.length_map, List.length_take]; omega
  have h2 : negD l k = ofRowsD (l.take k) (-1) ++ ⟨(dat l k).rv, (dat l k).row, 1⟩ :: onesOf (l.drop (k + 1)) := by
    unfold negD
    rw [List.drop_eq_getElem_cons hk, ← dat_eq hk]
    rfl
  have h3 : negD l (k + 1) = ofRowsD (l.take k) (-1) ++ ⟨(dat l k).rv, (dat l k).row, -1⟩ :: onesOf (l.drop (k + 1)) := by
    unfold negD
    rw [List.take_succ_eq_append_getElem hk, ← dat_eq hk]
    unfold ofRowsD
    rw [List.map_append, List.append_assoc]
    rfl
  have h4 : dat (negD l k) k = ⟨(dat l k).rv, (dat l k).row, 1⟩ := by
    rw [h2, dat_eq (by rw [List.length_append, h1, List.length_cons]; omega), List.getElem_append_right (by omega)]
    simp [h1]
  rw [h4, h3, h2, List.set_append_right _ _ (by omega), h1, Nat.sub_self]
  rfl
/-- what Between finds -/
def btwD (a b : List RE) : List DE := ofRowsD a (-1) ++ onesOf b
theorem absN_of (l : List RE) (m : Int) : absN DE.n (ofRowsD l m) = m.natAbs * l.length := by
  induction l with
  | nil => simp [ofRowsD, absN]
  | cons e l ih =>
    unfold ofRowsD at ih ⊢
    simp only [List.map_cons, absN, ih, List.length_cons]
    have : (m.natAbs : Int) * ((l.length + 1 : Nat) : Int) = m.natAbs * l.length + m.natAbs := by
      rw [Int.natCast_add, Int.mul_add]
      simp
    rw [this]
    omega
theorem absN_btw (a b : List RE) : absN DE.n (btwD a b) = a.length + b.length := by
  unfold btwD
  rw [absN_append, absN_of, absN_ones]
  simp
theorem btw_len (a b : List RE) : (btwD a b).length = a.length + b.length := by
  unfold btwD ofRowsD onesOf
  rw [List.length_append, List.length_map, List.length_map]

set_option maxHeartbeats 2000000 in
set_option maxRecDepth 100000 in
theorem btw_any (G1 G1' G2 G2' : Nat → Prop) (va vb : Value) (a b : List RE) (w : World) (ha : RR w G1 G1' va a) (hb : RR w G2 G2' vb b) (hna : a.length < 2097152) (hnb : b.length < 2097152) :
    Calls Tryz.prog 62 #[va, vb] w fun e w' => ∃ v' out, e = .returned v' ∧ RD w' (fun _ => True) (fun _ => True) v' out ∧ Canon cmpD DE.n setN (btwD a b) out ∧ Below w.heap.size w w' := by
  have HONES := Lib.hid (ones_any G1 G1' va a w ha (by omega))
  have HA := Lib.hid ha
  have HBB := Lib.hid hb
  obtain ⟨_, Aa, ca, rfl, hca, hma, _⟩ := ha.sl
  obtain ⟨_, Ab, cb, rfl, hcb, hmb, _⟩ := hb.sl
  unfold maxLen at hma hmb
  have holen : (onesOf a).length = a.length := by unfold onesOf; rw [List.length_map]
  have HOLB := Lib.hid (show (onesOf b).length = b.length by unfold onesOf; rw [List.length_map])
  clear ha hb
  go_enter Tryz.func62, Tryz.ntmps62
  go_wp2_with fail
  refine HONES.out.mono ?_
  rintro e w1 ⟨v1, rfl, ho1, hb1⟩
  have ho2 := ho1.own
  rw [holen] at ho2
  obtain ⟨_, A1, c1, e1, hc1, hm1, _⟩ := SL.of_own ho2
  subst e1
  have HO := Lib.hid ho2
  have HB1 := Lib.hid hb1
  obtain ⟨n, hln⟩ : ∃ n, a.length = n := ⟨_, rfl⟩
  have HN := Lib.hid hln
  rw [hln] at hca hna hc1 HO ⊢
  clear ho1 ho2 hb1 hln HONES holen
  unfold maxLen at hm1
  go_wp2_with fail
  go_loopw [6, 11] (fun _ i wr => ∃ k : Nat, k ≤ n ∧ i = .int .i64 k ∧ wr.ownsRow w.heap.size 86 2 (.slice A1 n c1) n (dcells (negD a k)) ∧ Below w.heap.size w wr) (fun _ i _ => n - (intOf i).toNat)
  case atStart => exact ⟨0, Nat.zero_le _, rfl, HO.out, HB1.out⟩
  case round =>
    obtain ⟨k, hk, rfl, ho, hbel⟩ := hrel
    have HOK := Lib.hid ho
    have HBK := Lib.hid hbel
    by_cases hlt : k < n
    · as_aux_lemma =>
      obtain ⟨g, cap, ev, hbg, hgl, hcap1, hcap2⟩ := own_form ho (by omega)
      injection ev with ev1 _ ev2
      subst ev1
      subst ev2
      have q0 := (own_cellsD ho (by rw [negD_len, HN.out]) hlt).2
      have hfz := fun k => ho.frozenAt k
      have HO2 := Lib.hid (own_setN ho (i := k) (by rw [negD_len, HN.out]; exact hlt) (-1))
      rw [negD_step a k (by rw [HN.out]; exact hlt)] at HO2
      have HB2 := Lib.hid (hbel.setCell (p := ⟨g, k * 2 + 1, none⟩) hbg (.int .i64 (-1)))
      clear ho hbel HOK
      go_wp2_with fail
      go_roundw
      case rel => exact ⟨k + 1, hlt, by go_num, HO2.out, HB2.out⟩
      case measure => simp [intOf] <;> omega
    · as_aux_lemma =>
      obtain rfl : k = n := by omega
      have HNEG := Lib.hid (show wr.ownsRow w.heap.size 86 2 (.slice A1 k c1) k (dcells (ofRowsD a (-1))) by
        rw [← negD_all a, HN.out]; exact ho)
      have HONES2 := Lib.hid (ones_any G2 G2' _ b wr (HBB.out.later hbel) (by omega))
      have hzr := hbel.size
      clear ho hbel HOK
      go_wp2_with fail
      refine HONES2.out.mono ?_
      rintro e w2 ⟨v2, rfl, ho3, hb3⟩
      have HB3 := Lib.hid (HBK.out.trans (hb3.mono hzr))
      have HO3 := Lib.hid ho3
      have HN2 := Lib.hid (own_later HNEG.out hb3)
      have hz3 := HB3.out.size
      obtain ⟨_, A2, c2, e2, _, _, _⟩ := ho3.rd.sl
      subst e2
      have hol : k + (onesOf b).length < 1073741824 := by rw [HOLB.out]; omega
      clear ho3 hb3 HONES2
      go_wp2_with (at_builtin; refine append_sl w2 rfl (.tmp 19) (.tmp 21) 23 rfl w.heap.size 86 underD infoD rfl (by decide) _ _ _ (dcells (onesOf b)) rfl HN2.out _ _ (onesOf b).length rfl HO3.out.rd.sl (dcells_one HO3.out.rd.good) hol (by decide) hz3 ?_)
      intro v4 w4 hown hb4
      have HB4 := Lib.hid (HB3.out.trans hb4)
      have HRD := Lib.hid (show RD w4 (fun b => w.heap.size ≤ b) (fun b => G1' b ∨ G2' b) v4 (btwD a b) from RD.append (a := ofRowsD a (-1)) (b := onesOf b) (by
        have : (ofRowsD a (-1)).length = k := by unfold ofRowsD; rw [List.length_map, HN.out]
        rw [this]; exact hown) (fun d hd => by
          unfold ofRowsD at hd
          obtain ⟨e, he, rfl⟩ := List.mem_map.1 hd
          exact ⟨(HA.out.good e he).later HB4.out, (by decide : (-9223372036854775808 : Int) ≤ -1 ∧ (-1 : Int) ≤ 9223372036854775807)⟩) (fun d hd => by
          unfold onesOf at hd
          obtain ⟨e, he, rfl⟩ := List.mem_map.1 hd
          exact ⟨(HBB.out.good e he).later HB4.out, (by decide : (-9223372036854775808 : Int) ≤ 1 ∧ (1 : Int) ≤ 9223372036854775807)⟩))
      have HCA := Lib.hid (canonical_any _ _ v4 _ w4 HRD.out (by rw [btw_len, HN.out]; omega) (by rw [absN_btw, HN.out]; omega))
      clear hown hb4
      go_wp2_with fail
      refine HCA.out.mono ?_
      rintro e w5 ⟨v5, out, rfl, ho5, hca5, hb5⟩
      have HO5 := Lib.hid ho5
      have HC5 := Lib.hid hca5
      have HB5 := Lib.hid (HB4.out.trans (hb5.mono HB4.out.size))
      clear ho5 hca5 hb5 HCA
      go_wp2_with fail
      go_ret
      exact ⟨_, out, rfl, HO5.out.rd.mono (fun _ _ _ => trivial) (fun _ _ _ => trivial), HC5.out, HB5.out⟩
theorem tot_abs (x : DE) (l : List DE) : (tot cmpD DE.n x l).natAbs ≤ absN DE.n l := by
  induction l with
  | nil => simp [tot, absN]
  | cons d l ih =>
    simp only [tot, absN]
    split <;> omega
theorem btw_in (a b : List RE) (hna : a.length < 2097152) (hnb : b.length < 2097152) (x : DE) : -4194304 ≤ tot cmpD DE.n x (btwD a b) ∧ tot cmpD DE.n x (btwD a b) ≤ 4194304 := by
  have h1 := tot_abs x (btwD a b)
  rw [absN_btw] at h1
  omega
theorem SmR.of {l : List RE} (h : SmR l) (m : Int) : SmD (ofRowsD l m) := fun d hd => by
  unfold ofRowsD at hd
  obtain ⟨e, he, rfl⟩ := List.mem_map.1 hd
  exact h e he

set_option maxHeartbeats 2000000 in
set_option maxRecDepth 100000 in
theorem between_any (G1 G1' G2 G2' : Nat → Prop) (va vb : Value) (a b : List RE) (w : World) (ha : RR w G1 G1' va a) (hb : RR w G2 G2' vb b) (hna : a.length < 2097152) (hnb : b.length < 2097152) (hsa : SmR a) (hsb : SmR b) :
    Calls Tryz.prog 11 #[va, vb] w fun e w' => ∃ v' out l', e = .returned v' ∧ Canon cmpD DE.n setN (btwD a b) out ∧ SameD out l' ∧ RD w' (fun b => w.heap.size ≤ b) (fun b => w.heap.size ≤ b) v' l' ∧ Below w.heap.size w w' := by
  have HC := Lib.hid (btw_any G1 G1' G2 G2' va vb a b w ha hb hna hnb)
  have HSM := Lib.hid ((hsa.of (-1)).append hsb.ones)
  obtain ⟨_, Aa, ca, rfl, _, _, _⟩ := ha.sl
  obtain ⟨_, Ab, cb, rfl, _, _, _⟩ := hb.sl
  clear ha hb hsa hsb
  go_enter Tryz.func11, Tryz.ntmps11
  go_wp2_with fail
  refine HC.out.mono ?_
  rintro e w1 ⟨v1, out, rfl, hrd, hca, hb1⟩
  have HB1 := Lib.hid hb1
  have HCA := Lib.hid hca
  have hol : out.length < 1073741824 := by
    have := hca.len
    rw [btw_len] at this
    omega
  have HCD := Lib.hid (copyDeltas_any _ _ v1 out w1 hrd hol (hca.sm HSM.out))
  clear hrd hca hb1 HC hol
  go_wp2_with fail
  refine HCD.out.mono ?_
  rintro e w2 ⟨v2, l', rfl, hrd2, hsd, hb2⟩
  have HB2 := Lib.hid (HB1.out.trans (hb2.mono HB1.out.size))
  have HRD2 := Lib.hid hrd2
  have HSD := Lib.hid hsd
  have hz1 := HB1.out.size
  clear hrd2 hsd hb2 HCD
  go_wp2_with fail
  go_ret
  exact ⟨v2, out, l', rfl, HCA.out, HSD.out, HRD2.out.mono (fun b hb _ => Nat.le_trans hz1 hb) (fun b hb _ => Nat.le_trans hz1 hb), HB2.out⟩

set_option maxHeartbeats 2000000 in
set_option maxRecDepth 100000 in
theorem betweenR_any (G1 G1' G2 G2' : Nat → Prop) (va vb : Value) (a b : List RE) (w : World) (ha : RR w G1 G1' va a) (hb : RR w G2 G2' vb b) (hna : a.length < 2097152) (hnb : b.length < 2097152) :
    Calls Tryz.prog 15 #[va, vb] w fun e w' => ∃ v' es, e = .returned v' ∧ DiffI cmpD setN (btwD a b) es ∧ RD w' (fun _ => True) (fun _ => True) v' (refOut cmpD DE.n setN 1 (btwD a b) es) ∧ Below w.heap.size w w' := by
  have HA := Lib.hid ha
  have HBB := Lib.hid hb
  have HO1 := Lib.hid (ofRows_any G1 G1' va a (-1) (by unfold I64; decide) w ha (by omega))
  obtain ⟨_, Aa, ca, rfl, _, _, _⟩ := ha.sl
  obtain ⟨_, Ab, cb, rfl, _, _, _⟩ := hb.sl
  have HOLA := Lib.hid (show (ofRowsD a (-1)).length = a.length by unfold ofRowsD; rw [List.length_map])
  have HOLB := Lib.hid (show (ofRowsD b 1).length = b.length by unfold ofRowsD; rw [List.length_map])
  clear ha hb
  go_enter Tryz.func15, Tryz.ntmps15
  go_wp2_with fail
  refine HO1.out.mono ?_
  rintro e w1 ⟨v1, rfl, ho1, hb1⟩
  have HR1 := Lib.hid ho1
  have HB1 := Lib.hid hb1
  have HO2 := Lib.hid (ofRows_any G2 G2' _ b 1 (by unfold I64; decide) w1 (HBB.out.later hb1) (by omega))
  obtain ⟨_, A1, c1, e1, _, _, _⟩ := ho1.rd.sl
  subst e1
  clear ho1 hb1 HO1
  go_wp2_with fail
  refine HO2.out.mono ?_
  rintro e w2 ⟨v2, rfl, ho2, hb2⟩
  have HR2 := Lib.hid ho2
  have HB2 := Lib.hid (HB1.out.trans (hb2.mono HB1.out.size))
  have HR12 := Lib.hid (HR1.out.later hb2)
  have hz2 := HB2.out.size
  obtain ⟨_, A2, c2, e2, _, _, _⟩ := ho2.rd.sl
  subst e2
  have hol : (ofRowsD a (-1)).length + (ofRowsD b 1).length < 1073741824 := by rw [HOLA.out, HOLB.out]; omega
  clear ho2 hb2 HO2
  go_wp2_with (at_builtin; refine append_sl w2 rfl (.tmp 9) (.tmp 11) 23 rfl w.heap.size 86 underD infoD rfl (by decide) _ _ _ (dcells (ofRowsD b 1)) rfl HR12.out.own _ _ (ofRowsD b 1).length rfl HR2.out.rd.sl (dcells_one HR2.out.rd.good) hol (by decide) hz2 ?_)
  intro v4 w4 hown hb4
  have HB4 := Lib.hid (HB2.out.trans hb4)
  have HRD := Lib.hid (show RD w4 (fun b => w.heap.size ≤ b) (fun b => G1' b ∨ G2' b) v4 (btwD a b) from RD.append (a := ofRowsD a (-1)) (b := onesOf b) hown (fun d hd => by
      unfold ofRowsD at hd
      obtain ⟨e, he, rfl⟩ := List.mem_map.1 hd
      exact ⟨(HA.out.good e he).later HB4.out, (by decide : (-9223372036854775808 : Int) ≤ -1 ∧ (-1 : Int) ≤ 9223372036854775807)⟩) (fun d hd => by
      unfold onesOf at hd
      obtain ⟨e, he, rfl⟩ := List.mem_map.1 hd
      exact ⟨(HBB.out.good e he).later HB4.out, (by decide : (-9223372036854775808 : Int) ≤ 1 ∧ (1 : Int) ≤ 9223372036854775807)⟩))
  have HCA := Lib.hid (canonicalR_any 1 (.inl rfl) _ _ v4 _ w4 HRD.out (by rw [btw_len]; omega))
  clear hown hb4
  go_wp2_with fail
  refine HCA.out.mono ?_
  rintro e w5 ⟨hb5, es, hdi, hp⟩
  have HB5 := Lib.hid (HB4.out.trans (hb5.mono HB4.out.size))
  have HD5 := Lib.hid hdi
  clear hb5 hdi HCA
  rcases hp with ⟨_, x, _, hx⟩ | ⟨v5, rfl, -, ho5⟩
  · refine absurd ?_ hx
    have h1 := btw_in a b hna hnb x
    rw [timesR_eq (by unfold InT; omega)]
    unfold InT
    omega
  · have HO5 := Lib.hid ho5
    clear ho5
    go_wp2_with fail
    go_ret
    exact ⟨_, es, rfl, HD5.out, HO5.out.rd.mono (fun _ _ _ => trivial) (fun _ _ _ => trivial), HB5.out⟩
end Go.Proofs.YthejmnmkbldacaaGreatDoor

namespace Go.Proofs.YthejmnmkbldacaaGreatDoor
open Go.RowKit
attribute [local go_sem] Tab.Env.ev Tab.Env.get

theorem infoI6 : (Tryz.prog.info? 100).map (fun i => (i.zero, i.size, i.bytes)) = some (some (.agg #[.slice none 0 0, .slice none 0 0, .int .i64 0]), 3, 56) := by kernel_rfl
theorem underI6 : Tryz.prog.underlying 97 = some (.slice 100) := by kernel_rfl
set_option maxHeartbeats 400000 in
theorem cloneV_any (F : Nat → Prop) (v : Value) (n : Nat) (cs : List Value) (w : World) (hsl : SL w F 5 v n cs) (h1 : ∀ u ∈ cs, u.oneCell' = true) (hn : n < 1073741824) :
    Calls Tryz.prog 66 #[v] w fun e w' => ∃ v', e = .returned v' ∧ w'.ownsRow w.heap.size 33 5 v' n cs ∧ Below w.heap.size w w' := by
  have HSL := Lib.hid hsl
  have HONE := Lib.hid h1
  obtain ⟨hl, A, c, rfl, hc1, hc2, hc⟩ := hsl
  have HL := Lib.hid hl
  clear hl hc h1
  have heq := fun (w : World) => Lib.run_eql_slice_nil (P := Tryz.prog) w 31 33 A n c 0 0 underV
  cases A with
  | none =>
    have HN := Lib.hid (show n = 0 ∨ 0 < n by omega)
    go_enter Tryz.func66, Tryz.ntmps66
    go_wp2_with fail
    go_ret
    rcases HN.out with h0 | h0
    · subst h0
      have e0 : cs = [] := List.eq_nil_of_length_eq_zero (by simpa using HL.out)
      subst e0
      exact ⟨_, rfl, World.ownsRow_nil _ _ _ _, Below.refl _ _⟩
    · obtain ⟨_, A, c', hv, _, _, h⟩ := HSL.out
      obtain ⟨b, off, e, _⟩ := h h0
      injection hv with hv
      rw [e] at hv
      cases hv
  | some ad =>
    have HO := Lib.hid (World.ownsRow_lit (base := w.heap.size) (e := 33) (size := 5) w #[] 0 (Nat.le_refl _) (Nat.zero_le _) (by rfl))
    go_enter Tryz.func66, Tryz.ntmps66
    go_wp2_with (at_builtin; refine append_sl _ rfl (.tmp 5) (.tmp 6) 31 rfl w.heap.size 33 underV infoV rfl (by decide) _ 0 [] cs rfl HO.out F _ n rfl (HSL.out.later (below_new w _)) HONE.out (by omega) (by decide) (by simp) ?_)
    intro v' w1 hown' hb1
    have HO' := Lib.hid hown'
    clear hown'
    go_wp2_with fail
    go_ret
    exact ⟨_, rfl, HO'.out, (below_new w _).trans hb1⟩

/-- a row's cells -/
theorem RI.es {w : World} {F : Nat → Prop} {v : Value} {l : List VD} (h : RI w F v l) : ∃ es : List VE, es.map VE.x = l ∧ SL w F 5 v es.length (vcells es) ∧ ∀ e, e ∈ es → e.x.ok ∧ RI w F (.slice e.A e.x.items.length e.c) e.x.items := by
  obtain ⟨A, c, iA, iC, rfl, hc, hm, hs, hw, hr⟩ := h.shape
  have hlen : ((List.range l.length).map fun i => VE.mk (at_ l i) (iA i) (iC i)).length = l.length := by rw [List.length_map, List.length_range]
  refine ⟨(List.range l.length).map fun i => ⟨at_ l i, iA i, iC i⟩, ?_, ?_, ?_⟩
  · refine List.ext_getElem (by rw [List.length_map, hlen]) fun i h1 h2 => ?_
    rw [List.getElem_map, List.getElem_map, List.getElem_range]
    show at_ l i = l[i]
    unfold at_
    rw [List.getD_eq_getElem?_getD, List.getElem?_eq_getElem h2]
    rfl
  · refine ⟨?_, A, c, ?_, ?_, hm, fun hn => ?_⟩
    · have : ∀ es : List VE, (vcells es).length = es.length * 5 := fun es => by
        induction es with
        | nil => rfl
        | cons e es ih =>
          have e1 : vcells (e :: es) = e.cells ++ vcells es := rfl
          rw [e1, List.length_append, ih, List.length_cons]
          simp only [VE.cells, List.length_cons, List.length_nil]
          omega
      exact this _
    · rw [hlen]
    · rw [hlen]; exact hc
    · rw [hlen] at hn
      obtain ⟨b, off, hA, hF, hlt, hcl⟩ := hs hn
      refine ⟨b, off, hA, hF, hlt, fun j u hj => ?_⟩
      have hjj : j = j / 5 * 5 + j % 5 := by omega
      rw [hjj, vcells_get _ _ _ (Nat.mod_lt _ (by decide))] at hj
      by_cases hi : j / 5 < l.length
      · rw [List.getElem?_map, List.getElem?_range hi] at hj
        obtain ⟨c0, c1, c2, c3, c4⟩ := hcl _ hi
        simp only [Option.map_some, Option.bind_some, VE.cells] at hj
        have hm5 : j % 5 < 5 := Nat.mod_lt _ (by decide)
        have hoff : off + j = off + j / 5 * 5 + j % 5 := by omega
        rw [hoff]
        generalize j % 5 = r at hj hm5 ⊢
        match r, hm5, hj with
        | 0, _, hj => rw [← hj]; exact c0
        | 1, _, hj => rw [← hj]; exact c1
        | 2, _, hj => rw [← hj]; exact c2
        | 3, _, hj => rw [← hj]; exact c3
        | 4, _, hj => rw [← hj]; exact c4
      · rw [List.getElem?_eq_none (by rw [hlen]; omega)] at hj
        cases hj
  · intro e he
    obtain ⟨i, hi, rfl⟩ := List.mem_map.1 he
    rw [List.mem_range] at hi
    exact ⟨hw i hi, hr i hi⟩
/-- a row is cloned -/
theorem cloneRow_any (F : Nat → Prop) (v : Value) (l : List VD) (w : World) (hr : RI w F v l) (hn : l.length < 1073741824) :
    Calls Tryz.prog 66 #[v] w fun e w' => ∃ v', e = .returned v' ∧ RI w' (fun b => F b ∧ b < w.heap.size ∨ w.heap.size ≤ b) v' l ∧ Below w.heap.size w w' := by
  obtain ⟨es, rfl, hsl, hg⟩ := hr.es
  rw [List.length_map] at hn
  refine (cloneV_any F v es.length (vcells es) w hsl (vcells_one es) hn).mono ?_
  rintro e w' ⟨v', rfl, ho, hb⟩
  have hov : OwnV w' w.heap.size (fun b => F b ∧ b < w.heap.size) v' es := ⟨ho, fun e he => ⟨(hg e he).1, (((hg e he).2.mono (F' := fun b => F b ∧ b < w.heap.size) fun b h1 h2 => ⟨h1, h2⟩).later hb).mono fun b h1 _ => ⟨h1, fun e' => by
    have := (ho.lt b e').1
    have := h1.2
    omega⟩⟩⟩
  exact ⟨v', rfl, hov.ri, hb⟩

set_option maxHeartbeats 1000000 in
theorem byKeys_any (A1 A2 : Option Addr) (m1 c1 m2 c2 : Nat) (w : World) : Calls Tryz.prog 119 #[.agg #[.slice A1 m1 c1, .slice none 0 0, .int .i64 0], .agg #[.slice A2 m2 c2, .slice none 0 0, .int .i64 0], .slice none 0 0] w fun e w' => e = .returned (.int .i64 0) ∧ Below w.heap.size w w' := by
  go_enter Tryz.func119, Tryz.ntmps119
  go_wp2_with fail
  refine wp_loop_rounds 1 ?_
  rw [rounds_succ]
  go_wp2_with fail
  go_ret
  exact ⟨rfl, (below_new w _).trans ((below_new _ _).mono (by simp))⟩

/-- the cells of items of rows -/
def icells (l : List RE) : List Value := l.flatMap fun e => [e.rv, .slice none 0 0, .int .i64 0]
theorem icells_append (l r : List RE) : icells (l ++ r) = icells l ++ icells r := List.flatMap_append
theorem icells_length (l : List RE) : (icells l).length = l.length * 3 := by
  induction l with
  | nil => rfl
  | cons e l ih =>
    have : icells (e :: l) = [e.rv, .slice none 0 0, .int .i64 0] ++ icells l := rfl
    rw [this, List.length_append, ih, List.length_cons]
    simp
    omega
theorem icells_get (l : List RE) (i : Nat) : (icells l)[i * 3]? = (l[i]?).map RE.rv ∧ (icells l)[i * 3 + 1]? = (l[i]?).map (fun _ => .slice none 0 0) ∧ (icells l)[i * 3 + 2]? = (l[i]?).map fun _ => .int .i64 0 := by
  induction l generalizing i with
  | nil => simp [icells]
  | cons e l ih =>
    have e1 : icells (e :: l) = [e.rv, .slice none 0 0, .int .i64 0] ++ icells l := rfl
    rw [e1]
    cases i with
    | zero => simp
    | succ i =>
      have := ih i
      rw [show (i + 1) * 3 = i * 3 + 3 by omega]
      simpa [List.getElem?_append_right] using this
/-- a slice that reads as a list of items of rows -/
structure IT (w : World) (F F' : Nat → Prop) (v : Value) (l : List RE) : Prop where
  sl : SL w F 3 v l.length (icells l)
  good : ∀ e, e ∈ l → RI w F' e.rv e.row
section
variable {w w' : World} {F F' F2 F2' : Nat → Prop} {v : Value} {l : List RE}
theorem IT.later (h : IT w F F' v l) (hb : Below w.heap.size w w') : IT w' F F' v l := ⟨h.sl.later hb, fun d hd => (h.good d hd).later hb⟩
theorem IT.mono (h : IT w F F' v l) (h1 : ∀ b, F b → b < w.heap.size → F2 b) (h2 : ∀ b, F' b → b < w.heap.size → F2' b) : IT w F2 F2' v l := ⟨h.sl.mono h1, fun d hd => (h.good d hd).mono h2⟩
theorem IT.nil (w : World) (F F' : Nat → Prop) : IT w F F' (.slice none 0 0) [] := ⟨SL.nil w F 3, fun _ h => by cases h⟩
theorem IT.at_ (h : IT w F F' v l) {i : Nat} (hi : i < l.length) : ∃ (b off c : Nat) (A : Option Addr) (m c' : Nat) (row : List VD), v = .slice (some ⟨b, off, none⟩) l.length c ∧ l.length ≤ c ∧ c ≤ maxLen ∧ b < w.heap.size ∧ F b ∧ dat l i = ⟨.slice A m c', row⟩ ∧ RI w F' (.slice A m c') row ∧
    w.cell? ⟨b, off + i * 3, none⟩ = some (.slice A m c') ∧ w.cell? ⟨b, off + i * 3 + 1, none⟩ = some (.slice none 0 0) ∧ w.cell? ⟨b, off + i * 3 + 2, none⟩ = some (.int .i64 0) := by
  obtain ⟨b, off, c, hv, h1, h2, hF, hlt, hc⟩ := h.sl.at_ hi
  have hg := h.good (dat l i) (dat_mem hi)
  have hd := icells_get l i
  rw [dat_some hi] at hd
  obtain ⟨u0, e0, c0⟩ := hc 0 (by omega)
  obtain ⟨u1, e1, c1⟩ := hc 1 (by omega)
  obtain ⟨u2, e2, c2⟩ := hc 2 (by omega)
  rw [Nat.add_zero, hd.1] at e0
  rw [hd.2.1] at e1
  rw [hd.2.2] at e2
  simp only [Option.map_some, Option.some.injEq] at e0 e1 e2
  subst e0
  subst e1
  subst e2
  generalize dat l i = d at hg c0
  obtain ⟨rv, row⟩ := d
  obtain ⟨A, c', _, _, e, _⟩ := hg.shape
  simp only at e c0
  subst e
  exact ⟨b, off, c, A, _, c', row, hv, h1, h2, hlt, hF, rfl, hg, by simpa using c0, c1, c2⟩
/-- what lies from i on -/
theorem IT.drop {b off n c : Nat} (h : IT w F F' (.slice (some ⟨b, off, none⟩) n c) l) (i : Nat) (hi : i < l.length) : IT w F F' (.slice (some ⟨b, off + i * 3, none⟩) (n - i) (c - i)) (l.drop i) := by
  refine ⟨?_, fun e he => h.good e (List.mem_of_mem_drop he)⟩
  obtain ⟨hl, A, c', hv, h1, h2, h3⟩ := h.sl
  injection hv with e1 e2 e3
  subst e1
  subst e2
  subst e3
  obtain ⟨b', off', e, hF, hlt, hc⟩ := h3 (by omega)
  injection e with e
  injection e with e1 e2
  subst e1
  subst e2
  have hdl : (l.drop i).length = l.length - i := List.length_drop
  refine ⟨icells_length _, _, _, by rw [hdl], by omega, by omega, fun _ => ⟨b, _, rfl, hF, hlt, fun j u hj => ?_⟩⟩
  have hcut : icells (l.drop i) = (icells l).drop (i * 3) := by
    have := icells_append (l.take i) (l.drop i)
    rw [List.take_append_drop] at this
    have h5 : (icells (l.take i)).length = i * 3 := by rw [icells_length, List.length_take]; omega
    rw [this, ← h5, List.drop_left]
  rw [hcut, List.getElem?_drop] at hj
  rw [Nat.add_assoc]
  exact hc _ _ hj
/-- what lies before i -/
theorem IT.take {A : Option Addr} {n c : Nat} (h : IT w F F' (.slice A n c) l) (i c' : Nat) (hi : i ≤ l.length) (hc1 : i ≤ c') (hc2 : c' ≤ maxLen) : IT w F F' (.slice A i c') (l.take i) := by
  refine ⟨?_, fun e he => h.good e (List.mem_of_mem_take he)⟩
  obtain ⟨hl, A', c'', hv, h1, h2, h3⟩ := h.sl
  injection hv with e1 e2 e3
  subst e1
  have hdl : (l.take i).length = i := by rw [List.length_take]; omega
  refine ⟨icells_length _, A, c', by rw [hdl], by omega, hc2, fun hn => ?_⟩
  obtain ⟨b, off, e, hF, hlt, hc⟩ := h3 (by omega)
  refine ⟨b, off, e, hF, hlt, fun j u hj => hc j u ?_⟩
  have hcut : icells l = icells (l.take i) ++ icells (l.drop i) := by rw [← icells_append, List.take_append_drop]
  rw [hcut, List.getElem?_append_left (List.getElem?_eq_some_iff.1 hj).1]
  exact hj
end
theorem icells_one {w : World} {F : Nat → Prop} {l : List RE} (h : ∀ d, d ∈ l → RI w F d.rv d.row) : ∀ u ∈ icells l, u.oneCell' = true := by
  intro u hu
  obtain ⟨d, hd, h1⟩ := List.mem_flatMap.1 hu
  obtain ⟨A, c, _, _, e, _⟩ := (h d hd).shape
  rw [e] at h1
  rcases List.mem_cons.1 h1 with rfl | h1
  · rfl
  · rcases List.mem_cons.1 h1 with rfl | h1
    · rfl
    · rw [List.mem_singleton.1 h1]; rfl
/-- items of the call's own -/
structure OwnI (w : World) (base : Nat) (F : Nat → Prop) (v : Value) (es : List RE) : Prop where
  own : w.ownsRow base 100 3 v es.length (icells es)
  good : ∀ e, e ∈ es → RI w (fun b => F b ∧ v.ownBlock ≠ some b) e.rv e.row
theorem OwnI.nil (w : World) (base : Nat) (F : Nat → Prop) : OwnI w base F (.slice none 0 0) [] := ⟨World.ownsRow_nil _ _ _ _, fun _ h => by cases h⟩
theorem OwnI.it {w : World} {base : Nat} {F : Nat → Prop} {v : Value} {es : List RE} (h : OwnI w base F v es) : IT w (fun b => base ≤ b) F v es :=
  ⟨SL.of_own h.own, fun d hd => (h.good d hd).mono fun b hb _ => hb.1⟩
theorem OwnI.later {w w' : World} {base : Nat} {F : Nat → Prop} {v : Value} {es : List RE} (h : OwnI w base F v es) (hb : Below w.heap.size w w') : OwnI w' base F v es :=
  ⟨own_later h.own hb, fun e he => (h.good e he).later hb⟩
theorem OwnI.add {wr w' : World} {base : Nat} {F : Nat → Prop} {v v' : Value} {es : List RE} {e : RE} (h : OwnI wr base F v es) (ho : w'.ownsRow base 100 3 v' (es.length + 1) (icells es ++ [e.rv, .slice none 0 0, .int .i64 0])) (hk : Kept wr w' v v')
    (hr : RI wr (fun b => F b ∧ v.ownBlock ≠ some b) e.rv e.row) : OwnI w' base F v' (es ++ [e]) :=
  ⟨by rw [List.length_append, icells_append]; simpa [icells] using ho, fun d hd => by
    rcases List.mem_append.1 hd with hd | hd
    · exact hk.ri (h.good d hd)
    · rw [List.mem_singleton.1 hd]; exact hk.ri hr⟩

set_option maxHeartbeats 2000000 in
set_option maxRecDepth 100000 in
theorem rowsOf_any (F F' : Nat → Prop) (v : Value) (l : List RE) (w : World) (hr : IT w F F' v l) (hn : l.length < 1073741824) :
    Calls Tryz.prog 67 #[v] w fun e w' => ∃ v', e = .returned v' ∧ OwnRs w' w.heap.size (fun b => F' b ∧ b < w.heap.size) v' l ∧ Below w.heap.size w w' := by
  obtain ⟨hl, A, c, rfl, hc, hm, -⟩ := hr.sl
  unfold maxLen at hm
  have HR := Lib.hid hr
  clear hr hl
  obtain ⟨n, hln⟩ : ∃ n, l.length = n := ⟨_, rfl⟩
  rw [hln] at hn hc ⊢
  have HN := Lib.hid hln
  clear hln
  go_enter Tryz.func67, Tryz.ntmps67
  go_wp2_with fail
  go_loopw [3, 5, 8] (fun s _ i wr => ∃ (k : Nat) (v : Value), k ≤ n ∧ v = s ∧ i = .int .i64 k ∧ OwnRs wr w.heap.size (fun b => F' b ∧ b < w.heap.size) v (l.take k) ∧ Below w.heap.size w wr) (fun _ _ i _ => n - (intOf i).toNat)
  case atStart => exact ⟨0, _, Nat.zero_le _, rfl, rfl, OwnRs.nil _ _ _, Below.refl _ _⟩
  case round =>
    obtain ⟨k, v, hk, rfl, rfl, ho, hbel⟩ := hrel
    have HO := Lib.hid ho
    by_cases hlt : k < n
    · as_aux_lemma =>
      have hkl : k < l.length := by rw [HN.out]; exact hlt
      have hrr := HR.out.later hbel
      obtain ⟨b, off, c', A1, m1, c1, row, hv, -, -, hb, -, he, hri, q0, q1, q2⟩ := hrr.at_ (i := k) hkl
      injection hv with e1 _ e2
      subst e1
      subst e2
      have HT := Lib.hid (show l.take (k + 1) = l.take k ++ [⟨.slice A1 m1 c1, row⟩] by
        rw [List.take_succ_eq_append_getElem hkl, ← dat_eq hkl, he])
      have HLEN := Lib.hid (show (l.take k).length = k by rw [List.length_take, HN.out]; omega)
      have HO0 := Lib.hid (show RI w F' (.slice A1 m1 c1) row by have := HR.out.good _ (dat_mem (l := l) (i := k) hkl); rw [he] at this; exact this)
      have HB := Lib.hid hbel
      have hs2 : w.heap.size ≤ wr.heap.size := hbel.size
      clear hrr he hri ho
      have hbn := below_new wr (.cells #[.slice A1 m1 c1, .slice none 0 0, .int .i64 0] 100)
      have HOW := Lib.hid (HO.out.later hbn)
      have HBW := Lib.hid (hbel.trans (hbn.mono hs2))
      have hzw := HBW.out.size
      clear hbn hbel
      have hrl : (l.take k).length < 1073741824 := by rw [HLEN.out]; omega
      have HSZ := Lib.hid (show (wr.alloc (.cells #[.slice A1 m1 c1, .slice none 0 0, .int .i64 0] 100)).heap.size = wr.heap.size + 1 by simp)
      go_wp2_with (at_builtin; refine append_own2 (wr.alloc (.cells #[.slice A1 m1 c1, .slice none 0 0, .int .i64 0] 100)) rfl (.tmp 12) (.tmp 15) 22 rfl w.heap.size 31 underR infoR rfl (by decide) _ _ _ [.slice A1 m1 c1] rfl HOW.out.own (by rw [HSZ.out]; rfl) rfl (by simp [Value.oneCell']) hrl (by decide) hzw ?_)
      intro v' w2 hown' hb2 hkept
      have HRI := Lib.hid (show RI (wr.alloc (.cells #[.slice A1 m1 c1, .slice none 0 0, .int .i64 0] 100)) (fun b => (F' b ∧ b < w.heap.size) ∧ v.ownBlock ≠ some b) (.slice A1 m1 c1) row from
        ((HO0.out.mono (F' := fun b => F' b ∧ b < w.heap.size) (fun b hb h => ⟨hb, h⟩)).later HBW.out).mono fun b hb _ => ⟨hb, fun he => by
          have := (HO.out.own.lt b he).1
          have := hb.2
          omega⟩)
      have O2 := Lib.hid (HOW.out.add (e := RE.mk (.slice A1 m1 c1) row) (by rw [List.map_take, List.length_take]; exact hown') hkept HRI.out)
      have hbel2 := HBW.out.trans hb2
      rw [← HT.out] at O2
      clear hown' hb2 hkept
      go_wp2_with fail
      go_roundw
      case rel => exact ⟨k + 1, _, hlt, rfl, by go_num, O2.out, hbel2⟩
      case measure => simp [intOf] <;> omega
    · as_aux_lemma =>
      obtain rfl : k = n := by omega
      have HO2 := Lib.hid (show OwnRs wr w.heap.size (fun b => F' b ∧ b < w.heap.size) v l by
        have := HO.out
        rw [← HN.out, List.take_length] at this
        exact this)
      go_wp2_with fail
      go_ret
      exact ⟨_, rfl, HO2.out, hbel⟩
