/-
  What is proved: how the reference compares its numbers of decimal digits. Conditions: none.
  What is proved: what the reference's Compare computes, of values of every size. Conditions: none.
-/
import Derived.Test.YthejmnmkbldacaaGreatDoorGm08
set_option linter.all false
namespace Go.Proofs.YthejmnmkbldacaaGreatDoor
open Go.RowKit
attribute [local go_sem] Tab.Env.ev Tab.Env.get

theorem dval_lt {l : List Int} (h : Digits l) : dval l < 10 ^ l.length := by
  induction l with
  | nil => simp [dval]
  | cons d l ih =>
    have h1 := ih (fun x hx => h x (List.mem_cons_of_mem _ hx))
    have h2 := h d List.mem_cons_self
    unfold digit at h2
    simp only [dval, List.length_cons, Int.pow_succ]
    omega
theorem dval_ge {l : List Int} (h : Digits l) (hz : NoZero l) (hn : 0 < l.length) : 10 ^ (l.length - 1) ≤ dval l := by
  obtain ⟨r, d, rfl⟩ : ∃ r d, l = r ++ [d] := ⟨l.dropLast, l.getLast (by intro e; simp [e] at hn), (List.dropLast_concat_getLast _).symm⟩
  have hd0 : d ≠ 0 := hz d (by simp)
  have hd := h d (by simp)
  unfold digit at hd
  have hl := dval_nonneg (l := r) (fun x hx => h x (List.mem_append_left _ hx))
  rw [dval_append]
  simp only [dval, List.length_append, List.length_singleton, Nat.add_sub_cancel, Int.mul_zero, Int.add_zero]
  have := Int.mul_le_mul_of_nonneg_left (show (1 : Int) ≤ d by omega) (show (0 : Int) ≤ 10 ^ r.length from Int.le_of_lt (Int.pow_pos (by omega)))
  omega
theorem dval_len {l r : List Int} (h : Digits l) (h' : Digits r) (hz : NoZero r) (hlt : l.length < r.length) : dval l < dval r := by
  have h1 := dval_lt h
  have h2 := dval_ge h' hz (by omega)
  have h3 : (10 : Int) ^ l.length ≤ 10 ^ (r.length - 1) := by exact_mod_cast Nat.pow_le_pow_right (by omega) (by omega)
  omega
theorem dval_at {l r : List Int} (h : Digits l) (h' : Digits r) (hlen : l.length = r.length) {k : Nat} (hk : k < l.length) (he : l.drop (k + 1) = r.drop (k + 1)) (hlt : l.getD k 0 < r.getD k 0) : dval l < dval r := by
  have hk' : k < r.length := by omega
  have e1 : l = l.take k ++ (l.getD k 0 :: l.drop (k + 1)) := by
    rw [List.getD_eq_getElem?_getD, List.getElem?_eq_getElem hk]
    exact (List.take_append_drop k l).symm.trans (by rw [List.drop_eq_getElem_cons hk]; rfl)
  have e2 : r = r.take k ++ (r.getD k 0 :: r.drop (k + 1)) := by
    rw [List.getD_eq_getElem?_getD, List.getElem?_eq_getElem hk']
    exact (List.take_append_drop k r).symm.trans (by rw [List.drop_eq_getElem_cons hk']; rfl)
  have t1 := dval_lt (l := l.take k) (fun x hx => h x (List.mem_of_mem_take hx))
  have t2 := dval_nonneg (l := r.take k) (fun x hx => h' x (List.mem_of_mem_take hx))
  have v1 : dval l = dval (l.take k) + 10 ^ k * (l.getD k 0 + 10 * dval (l.drop (k + 1))) := by
    conv => lhs; rw [e1]
    rw [dval_append, dval, List.length_take, Nat.min_eq_left (by omega)]
  have v2 : dval r = dval (r.take k) + 10 ^ k * (r.getD k 0 + 10 * dval (r.drop (k + 1))) := by
    conv => lhs; rw [e2]
    rw [dval_append, dval, List.length_take, Nat.min_eq_left (by omega)]
  rw [List.length_take, Nat.min_eq_left (by omega)] at t1
  rw [v1, v2, he]
  generalize dval (r.drop (k + 1)) = q at *
  have := Int.mul_le_mul_of_nonneg_left (show l.getD k 0 + 10 * q + 1 ≤ r.getD k 0 + 10 * q by omega) (show (0 : Int) ≤ 10 ^ k from Int.le_of_lt (Int.pow_pos (by omega)))
  rw [Int.mul_add] at this
  omega

/-- a number whose sign says how two others compare -/
def SignOf (z a b : Int) : Prop := (z < 0 ∧ a < b) ∨ (z = 0 ∧ a = b) ∨ (0 < z ∧ b < a)

theorem digit_at {l : List Int} (h : Digits l) {k : Nat} (hk : k < l.length) : digit (l.getD k 0) := by
  rw [List.getD_eq_getElem?_getD, List.getElem?_eq_getElem hk]
  exact h _ (List.getElem_mem hk)

set_option maxHeartbeats 1000000 in
theorem most_any (A A' : Option Addr) (c c' : Nat) (l r : List Int) (w : World) (h1 : DS w A l c) (h2 : DS w A' r c') (hd : Digits l) (hd' : Digits r) (hz : NoZero l) (hz' : NoZero r) (hl : l.length ≤ 40) (hl' : r.length ≤ 40) :
    Calls Tryz.prog 221 #[.slice A l.length c, .slice A' r.length c'] w fun e w' => ∃ z, e = .returned (.int .i64 z) ∧ SignOf z (dval l) (dval r) ∧ (-100 ≤ z ∧ z ≤ 100) ∧ Below w.heap.size w w' := by
  have H1 := Lib.hid h1
  have H2 := Lib.hid h2
  have hm1 := h1.1
  have hm2 := h1.2.1
  have hm3 := h2.1
  have hm4 := h2.2.1
  unfold maxLen at hm2 hm4
  have HD := Lib.hid hd
  have HD' := Lib.hid hd'
  clear h1 h2
  by_cases hne : l.length = r.length
  · have e1 : ((l.length : Int) != r.length) = false := by simp; omega
    obtain ⟨n, hn⟩ : ∃ n, l.length = n := ⟨_, rfl⟩
    have hn' : r.length = n := by omega
    have HL := Lib.hid hn
    have HL' := Lib.hid hn'
    have HC := Lib.hid H1.out.2.2
    have HC' := Lib.hid H2.out.2.2
    rw [hn] at hm1 hl e1
    rw [hn'] at hm3 hl' e1
    rw [hn, hn']
    clear hne hd hd' hz hz' hn hn' H1 H2
    go_enter Tryz.func221, Tryz.ntmps221
    go_wp2_with fail
    go_loopw [5] (fun i wr => ∃ k : Nat, k ≤ n ∧ i = .int .i64 ((k : Int) - 1) ∧ l.drop k = r.drop k ∧ Below w.heap.size w wr) (fun i _ => (intOf i + 1).toNat)
    case atStart => exact ⟨n, Nat.le_refl _, rfl, by rw [List.drop_of_length_le (by rw [HL.out]; exact Nat.le_refl _), List.drop_of_length_le (by rw [HL'.out]; exact Nat.le_refl _)], Below.refl _ _⟩
    case round =>
      obtain ⟨k, hk, rfl, hdr, hbel⟩ := hrel
      have HDR := Lib.hid hdr
      clear hdr
      rcases k with _ | j
      · have HE := Lib.hid (show l = r by simpa using HDR.out)
        go_wp2_with fail
        go_ret
        exact ⟨0, rfl, .inr (.inl ⟨rfl, by rw [HE.out]⟩), by omega, hbel⟩
      · rw [show ((j + 1 : Nat) : Int) - 1 = j by omega]
        obtain ⟨b1, o1, rfl, hb1, hc1⟩ := HC.out (by rw [HL.out]; omega)
        obtain ⟨b2, o2, rfl, hb2, hc2⟩ := HC'.out (by rw [HL'.out]; omega)
        have d1 := digit_at HD.out (k := j) (by rw [HL.out]; omega)
        have d2 := digit_at HD'.out (k := j) (by rw [HL'.out]; omega)
        have C1 := (hbel.cell (p := ⟨b1, o1 + j, none⟩) hb1).trans (hc1 j (by rw [HL.out]; omega))
        have C2 := (hbel.cell (p := ⟨b2, o2 + j, none⟩) hb2).trans (hc2 j (by rw [HL'.out]; omega))
        obtain ⟨x, hx⟩ : ∃ x, l.getD j 0 = x := ⟨_, rfl⟩
        obtain ⟨y, hy⟩ : ∃ y, r.getD j 0 = y := ⟨_, rfl⟩
        have HX := Lib.hid hx
        have HY := Lib.hid hy
        rw [hx] at C1 d1
        rw [hy] at C2 d2
        unfold digit at d1 d2
        clear hc1 hc2 hx hy
        by_cases hxy : x = y
        · have e2 : (x != y) = false := by simp [hxy]
          have HXY := Lib.hid hxy
          clear hxy
          go_wp2_with fail
          go_quiet (fail)
          go_wp2_with fail
          go_roundw
          case rel => exact ⟨j, by omega, rfl, by
            rw [List.drop_eq_getElem_cons (by rw [HL.out]; omega), List.drop_eq_getElem_cons (l := r) (by rw [HL'.out]; omega), HDR.out]
            congr 1
            have h1 := HX.out
            have h2 := HY.out
            rw [List.getD_eq_getElem?_getD, List.getElem?_eq_getElem (by rw [HL.out]; omega)] at h1
            rw [List.getD_eq_getElem?_getD, List.getElem?_eq_getElem (by rw [HL'.out]; omega)] at h2
            exact h1.trans (HXY.out.trans h2.symm), below_drewN hbel _⟩
          case measure => simp [intOf]
        · have e2 : (x != y) = true := by simp [hxy]
          have HXY := Lib.hid hxy
          clear hxy
          go_wp2_with fail
          go_quiet (fail)
          go_wp2_with fail
          go_quiet (fail)
          go_wp2_with fail
          go_ret
          refine ⟨_, rfl, ?_, by omega, below_drewN (below_drewN hbel _) _⟩
          rcases Int.lt_or_le x y with hlt | hge
          · exact .inl ⟨by omega, dval_at HD.out HD'.out (by rw [HL.out, HL'.out]) (k := j) (by rw [HL.out]; omega) HDR.out (by rw [HX.out, HY.out]; exact hlt)⟩
          · have := HXY.out
            exact .inr (.inr ⟨by omega, dval_at HD'.out HD.out (by rw [HL.out, HL'.out]) (k := j) (by rw [HL'.out]; omega) HDR.out.symm (by rw [HX.out, HY.out]; omega)⟩)
  · have e1 : ((l.length : Int) != r.length) = true := by simp; omega
    have HN := Lib.hid hne
    have HZ := Lib.hid hz
    have HZ' := Lib.hid hz'
    clear hne hd hd' hz hz'
    go_enter Tryz.func221, Tryz.ntmps221
    go_wp2_with fail
    go_ret
    refine ⟨_, rfl, ?_, by omega, Below.refl _ _⟩
    have := HN.out
    rcases Nat.lt_or_ge l.length r.length with hlt | hge
    · exact .inl ⟨by omega, dval_len HD.out HD'.out HZ'.out hlt⟩
    · exact .inr (.inr ⟨by omega, dval_len HD'.out HD.out HZ.out (by omega)⟩)

theorem cmpI_signOf {z a b : Int} (h : SignOf z a b) : cmpI a b = if z < 0 then -1 else if 0 < z then 1 else 0 := by
  rcases h with ⟨h1, h2⟩ | ⟨h1, h2⟩ | ⟨h1, h2⟩
  · rw [cmpI_lt h2, if_pos h1]
  · rw [cmpI_eq h2, if_neg (by omega), if_neg (by omega)]
  · rw [cmpI_gt h2, if_neg (by omega), if_pos h1]

set_option maxHeartbeats 1000000 in
theorem compareWide_any (base base' : Nat) (v v' : Value) (s s' : Int) (w : World) (h1 : RV base w v s) (h2 : RV base' w v' s') :
    Calls Tryz.prog 189 #[v, v'] w fun e w' => e = .returned (.int .i64 (cmpI s s')) ∧ Below w.heap.size w w' := by
  obtain ⟨l, ⟨A, c, rfl, hds, -⟩, hd, hz, hv, hl⟩ := h1
  obtain ⟨r, ⟨A', c', rfl, hds', -⟩, hd', hz', hv', hl'⟩ := h2
  by_cases hb : (decide (s < 0)) = (decide (s' < 0))
  · obtain ⟨neg, hneg⟩ : ∃ neg, decide (s < 0) = neg := ⟨_, rfl⟩
    have hneg' : decide (s' < 0) = neg := by rw [← hb]; exact hneg
    rw [hneg, hneg']
    have HS := Lib.hid (show ∀ z, SignOf z (dval l) (dval r) → -100 ≤ z ∧ z ≤ 100 → cmpI s s' = (if (if neg then -z else z) < 0 then -1 else if 0 < (if neg then -z else z) then 1 else 0) by
      intro z hsz _
      refine cmpI_signOf (z := if neg then -z else z) ?_
      unfold SignOf at hsz ⊢
      rw [hv, hv'] at hsz
      cases neg
      · simp at hneg hneg' ⊢
        omega
      · simp at hneg hneg' ⊢
        omega)
    have HD := Lib.hid hds
    have HD' := Lib.hid hds'
    have HM := Lib.hid (fun w' (h : Below w.heap.size w w') => most_any A A' c c' l r w' (HD.out.later h) (HD'.out.later h) hd hd' hz hz' hl hl')
    have e1 : (neg != neg) = false := by simp
    clear hds hds' hd hd' hz hz' hv hv' hneg hneg' hb HD HD'
    go_enter Tryz.func189, Tryz.ntmps189
    go_wp2_with fail
    have hbel : Below w.heap.size w ((w.alloc (.cells #[.bool neg, .slice A l.length c] 232)).alloc (.cells #[.bool neg, .slice A' r.length c'] 232)) := (below_new w _).alloc (by simp) _
    have B0 : Blk ((w.alloc (.cells #[.bool neg, .slice A l.length c] 232)).alloc (.cells #[.bool neg, .slice A' r.length c'] 232)) w.heap.size 232 [.bool neg, .slice A l.length c] := (Blk.new w _ _).alloc _
    refine (HM.out _ hbel).mono ?_
    rintro e w1 ⟨z, rfl, hsz, hzb, hb⟩
    have HZ := Lib.hid (HS.out z hsz hzb)
    have q0 := wcell2 (B0.below hb B0.lt)
    have hbel1 := hbel.trans (hb.mono hbel.size)
    clear hb hbel hsz HS HM B0
    cases neg
    · simp only [Bool.false_eq_true, if_false] at HZ
      by_cases c1 : z < 0
      · have HR := Lib.hid (show cmpI s s' = -1 by rw [HZ.out, if_pos c1])
        clear HZ
        go_wp2_with fail
        go_ret
        exact ⟨ret_int HR.out.symm, hbel1⟩
      · by_cases c2 : 0 < z
        · have HR := Lib.hid (show cmpI s s' = 1 by rw [HZ.out, if_neg c1, if_pos c2])
          clear HZ
          go_wp2_with fail
          go_ret
          exact ⟨ret_int HR.out.symm, hbel1⟩
        · have HR := Lib.hid (show cmpI s s' = 0 by rw [HZ.out, if_neg c1, if_neg c2])
          clear HZ
          go_wp2_with fail
          go_ret
          exact ⟨ret_int HR.out.symm, hbel1⟩
    · simp only [if_true] at HZ
      by_cases c1 : -z < 0
      · have HR := Lib.hid (show cmpI s s' = -1 by rw [HZ.out, if_pos c1])
        clear HZ
        go_wp2_with fail
        go_ret
        exact ⟨ret_int HR.out.symm, hbel1⟩
      · by_cases c2 : 0 < -z
        · have HR := Lib.hid (show cmpI s s' = 1 by rw [HZ.out, if_neg c1, if_pos c2])
          clear HZ
          go_wp2_with fail
          go_ret
          exact ⟨ret_int HR.out.symm, hbel1⟩
        · have HR := Lib.hid (show cmpI s s' = 0 by rw [HZ.out, if_neg c1, if_neg c2])
          clear HZ
          go_wp2_with fail
          go_ret
          exact ⟨ret_int HR.out.symm, hbel1⟩
  · by_cases hs : s < 0
    · have hs' : ¬ s' < 0 := fun h => hb (by rw [decide_eq_true hs, decide_eq_true h])
      rw [decide_eq_true hs, decide_eq_false hs']
      have HR := Lib.hid (show cmpI s s' = -1 from cmpI_lt (by omega))
      clear hds hds' hd hd' hz hz' hv hv' hb hs hs'
      go_enter Tryz.func189, Tryz.ntmps189
      go_wp2_with fail
      go_ret
      exact ⟨ret_int HR.out.symm, (below_new w _).alloc (by simp) _⟩
    · have hs' : s' < 0 := by
        rcases Int.lt_or_le s' 0 with h | h
        · exact h
        · exact absurd (by rw [decide_eq_false hs, decide_eq_false (by omega)]) hb
      rw [decide_eq_false hs, decide_eq_true hs']
      have HR := Lib.hid (show cmpI s s' = 1 from cmpI_gt (by omega))
      clear hds hds' hd hd' hz hz' hv hv' hb hs hs'
      go_enter Tryz.func189, Tryz.ntmps189
      go_wp2_with fail
      go_ret
      exact ⟨ret_int HR.out.symm, (below_new w _).alloc (by simp) _⟩
end Go.Proofs.YthejmnmkbldacaaGreatDoor

namespace Go.Proofs.YthejmnmkbldacaaGreatDoor
open Go.RowKit
attribute [local go_sem] Tab.Env.ev Tab.Env.get

set_option maxHeartbeats 400000 in
theorem order_any (a b : Int) (w : World) : Calls Tryz.prog 150 #[.int .i64 a, .int .i64 b] w fun e w' => e = .returned (.int .i64 (cmpI a b)) ∧ w = w' := by
  go_enter Tryz.func150, Tryz.ntmps150
  go_wp2
  · have h : a < b := by assumption
    go_ret
    exact ⟨ret_int (cmpI_lt h).symm, rfl⟩
  · have h : b < a := by assumption
    go_ret
    exact ⟨ret_int (cmpI_gt h).symm, rfl⟩
  · have h : b ≤ a := by assumption
    have h' : a ≤ b := by assumption
    go_ret
    exact ⟨ret_int (cmpI_eq (by omega)).symm, rfl⟩

set_option maxHeartbeats 400000 in
theorem withinR_any (n low high : Int) (w : World) : Calls Tryz.prog 153 #[.int .i64 n, .int .i64 low, .int .i64 high] w fun e w' => e = .returned (.bool (decide (low ≤ n ∧ n ≤ high))) ∧ w = w' := by
  by_cases h : low ≤ n
  · by_cases h2 : n ≤ high
    · rw [decide_eq_true (And.intro h h2)]
      go_enter Tryz.func153, Tryz.ntmps153
      go_wp2
      go_ret
      exact ⟨rfl, rfl⟩
    · rw [decide_eq_false (fun h' => h2 h'.2)]
      have h3 : high < n := by omega
      clear h2
      go_enter Tryz.func153, Tryz.ntmps153
      go_wp2
      go_ret
      exact ⟨ret_bool (decide_eq_false (by omega)), rfl⟩
  · rw [decide_eq_false (fun h' => h h'.1)]
    have h3 : n < low := by omega
    clear h
    go_enter Tryz.func153, Tryz.ntmps153
    go_wp2
    go_ret
    exact ⟨rfl, rfl⟩

theorem cfOrder : ∀ (args : Array Value) (w : World), (callFunc 150 args).run Tryz.prog w = .ok (.enter 150 args) w := fun _ _ => by simp [go_sem]

theorem bytes_step {a b : ByteArray} {k : Nat} (h1 : k < a.size) (h2 : k < b.size) :
    (((a[k].toNat : Int) = b[k].toNat) → cmpBytes (a.data.toList.drop k) (b.data.toList.drop k) = cmpBytes (a.data.toList.drop (k + 1)) (b.data.toList.drop (k + 1))) ∧
    (((a[k].toNat : Int) ≠ b[k].toNat) → cmpBytes (a.data.toList.drop k) (b.data.toList.drop k) = cmpI a[k].toNat b[k].toNat) := by
  have l1 : k < a.data.toList.length := by simpa using h1
  have l2 : k < b.data.toList.length := by simpa using h2
  have e1 : a.data.toList[k] = a[k] := by simp [ByteArray.getElem_eq_getElem_data]
  have e2 : b.data.toList[k] = b[k] := by simp [ByteArray.getElem_eq_getElem_data]
  rw [List.drop_eq_getElem_cons l1, List.drop_eq_getElem_cons l2, e1, e2, cmpBytes]
  have hlt : ∀ x y : UInt8, x < y ↔ x.toNat < y.toNat := fun x y => UInt8.lt_iff_toNat_lt
  constructor
  · intro h
    rw [if_neg (by rw [hlt]; omega), if_neg (by rw [hlt]; omega)]
  · intro h
    rcases Nat.lt_or_ge a[k].toNat b[k].toNat with h3 | h3
    · rw [if_pos ((hlt _ _).2 h3), cmpI_lt (by omega)]
    · rw [if_neg (by rw [hlt]; omega), if_pos ((hlt _ _).2 (by omega)), cmpI_gt (by omega)]

theorem bytes_end {a b : ByteArray} {k : Nat} (h1 : k ≤ a.size) (h2 : k ≤ b.size) (h : k = a.size ∨ k = b.size) : cmpBytes (a.data.toList.drop k) (b.data.toList.drop k) = cmpI a.size b.size := by
  have l1 : a.data.toList.length = a.size := by simp
  have l2 : b.data.toList.length = b.size := by simp
  by_cases ha : k = a.size
  · rw [List.drop_of_length_le (by omega)]
    by_cases hb : k = b.size
    · rw [List.drop_of_length_le (by omega), cmpI_eq (by omega)]
      rfl
    · rw [List.drop_eq_getElem_cons (by omega), cmpI_lt (by omega)]
      rfl
  · rw [List.drop_eq_getElem_cons (by omega), List.drop_of_length_le (l := b.data.toList) (by omega), cmpI_gt (by omega)]
    rfl

set_option maxHeartbeats 1000000 in
theorem texts_any (a b : ByteArray) (ha : a.size ≤ maxLen) (hb : b.size ≤ maxLen) (w : World) : Calls Tryz.prog 152 #[.string a, .string b] w fun e w' => e = .returned (.int .i64 (cmpS a b)) ∧ Below w.heap.size w w' := by
  unfold maxLen at ha hb
  go_enter Tryz.func152, Tryz.ntmps152
  go_wp2_with fail
  go_loopw [5] (fun i wr => ∃ k : Nat, k ≤ a.size ∧ k ≤ b.size ∧ i = .int .i64 k ∧ cmpS a b = cmpBytes (a.data.toList.drop k) (b.data.toList.drop k) ∧ Below w.heap.size w wr) (fun i _ => a.size - (intOf i).toNat)
  case atStart => exact ⟨0, Nat.zero_le _, Nat.zero_le _, rfl, rfl, Below.refl _ _⟩
  case round =>
    obtain ⟨k, hk1, hk2, rfl, he, hbel⟩ := hrel
    have HE := Lib.hid he
    clear he
    by_cases h1 : k < a.size
    · by_cases h2 : k < b.size
      · have HS := Lib.hid (bytes_step h1 h2)
        by_cases hxy : (a[k].toNat : Int) = b[k].toNat
        · have e2 : ((a[k].toNat : Int) != b[k].toNat) = false := by simp only [bne_eq_false_iff_eq]; exact hxy
          have HN := Lib.hid (HE.out.trans (HS.out.1 hxy))
          clear hxy HE HS
          go_wp2_with fail
          go_quiet (fail)
          go_wp2_with fail
          go_roundw
          case rel => exact ⟨k + 1, h1, h2, by go_num, HN.out, below_drewN hbel _⟩
          case measure => simp [intOf]; omega
        · have e2 : ((a[k].toNat : Int) != b[k].toNat) = true := by simp only [bne_iff_ne]; exact hxy
          have HN := Lib.hid (HE.out.trans (HS.out.2 hxy))
          clear hxy HE HS
          go_wp2_with fail
          go_quiet (fail)
          go_wp2_with fail
          have hbel2 := below_drewN hbel nq
          generalize wr.drewN nq = wq at *
          have hx := UInt8.toNat_lt a[k]
          have hy := UInt8.toNat_lt b[k]
          obtain ⟨x, ex⟩ : ∃ x : Nat, a[k].toNat = x := ⟨_, rfl⟩
          obtain ⟨y, ey⟩ : ∃ y : Nat, b[k].toNat = y := ⟨_, rfl⟩
          rw [ex] at hx
          rw [ey] at hy
          rw [ex, ey] at HN
          have wx := IntWalk.i64_in (x : Int) (by omega)
          have wy := IntWalk.i64_in (y : Int) (by omega)
          refine Tab.wp_region_tab (Tab.Ext fun _ => False) (by kernel_rfl) (by kernel_rfl) (fun _ => Tab.Ext.refl _ _) (fun _ _ _ h k => h.trans k) ?_
          iterate 8 (first | (refine Tab.tab_moveE _ rfl (Tab.silent_true _) (.inl rfl) rfl rfl (fun _ => Tab.Ext.refl _ _) ?_; apply Exists.intro; refine And.intro ?_ ?_; focus (simp [Tab.Env.ev, Tab.Env.get]; rfl)) | (refine Tab.tab_moveE _ rfl (Tab.silent_true _) (.inr rfl) rfl rfl (fun _ => Tab.Ext.refl _ _) ?_; apply Exists.intro; refine And.intro ?_ ?_; focus (simp [Tab.Env.ev, Tab.Env.get]; rfl)) | refine Tab.tab_skip rfl (Tab.silent_true _) rfl ?_ | (refine Tab.tab_repE rfl (Tab.silent_true _) rfl (fun _ _ h => by cases h) rfl (fun _ => Tab.Ext.refl _ _) ?_; apply Exists.intro; refine And.intro (fun l w' _ _ hw => ?_) ?_; focus (go_simp; rfl)) | (refine Tab.tab_repE rfl (Tab.silent_true _) rfl (fun _ _ h => by cases h) rfl (fun _ => Tab.Ext.refl _ _) ?_; apply Exists.intro; refine And.intro (fun l w' hs hc hw => ?_) ?_; focus (go_simp; rfl)))
          refine Tab.tab_call_is (.int .i64 (cmpI x y)) rfl rfl rfl cfOrder rfl (fun l_ w' _ _ _ hw => ?_) ?_
          · show Calls _ _ #[.int .i64 x, .int .i64 y] w' _
            refine (order_any _ _ _).mono ?_
            rintro e_ w_ ⟨rfl, rfl⟩
            exact ⟨rfl, Tab.Ext.refl _ _, trivial⟩
          iterate 1 (first | (refine Tab.tab_moveE _ rfl (Tab.silent_true _) (.inl rfl) rfl rfl (fun _ => Tab.Ext.refl _ _) ?_; apply Exists.intro; refine And.intro ?_ ?_; focus (simp [Tab.Env.ev, Tab.Env.get]; rfl)) | (refine Tab.tab_moveE _ rfl (Tab.silent_true _) (.inr rfl) rfl rfl (fun _ => Tab.Ext.refl _ _) ?_; apply Exists.intro; refine And.intro ?_ ?_; focus (simp [Tab.Env.ev, Tab.Env.get]; rfl)) | refine Tab.tab_skip rfl (Tab.silent_true _) rfl ?_ | (refine Tab.tab_repE rfl (Tab.silent_true _) rfl (fun _ _ h => by cases h) rfl (fun _ => Tab.Ext.refl _ _) ?_; apply Exists.intro; refine And.intro (fun l w' _ _ hw => ?_) ?_; focus (go_simp; rfl)) | (refine Tab.tab_repE rfl (Tab.silent_true _) rfl (fun _ _ h => by cases h) rfl (fun _ => Tab.Ext.refl _ _) ?_; apply Exists.intro; refine And.intro (fun l w' hs hc hw => ?_) ?_; focus (go_simp; rfl)))
          intro a_ w_ hw_ hsat_
          refine Tab.fin_of_sat rfl ?_ hsat_
          simp only [Tab.fin, Act.put, List.setIfInBounds_toArray, List.set_cons_succ, List.set_cons_zero]
          go_wp2_with fail
          go_ret
          exact ⟨ret_int HN.out.symm, hbel2.drew.trans (hw_.below.mono hbel2.size)⟩
      · have HN := Lib.hid (HE.out.trans (bytes_end hk1 hk2 (.inr (by omega))))
        clear HE
        go_wp2_with (go_at_call 150; refine (order_any _ _ _).mono ?_; rintro e w' ⟨rfl, rfl⟩)
        go_ret
        exact ⟨ret_int HN.out.symm, hbel⟩
    · have HN := Lib.hid (HE.out.trans (bytes_end hk1 hk2 (.inl (by omega))))
      clear HE
      go_wp2_with (go_at_call 150; refine (order_any _ _ _).mono ?_; rintro e w' ⟨rfl, rfl⟩)
      go_ret
      exact ⟨ret_int HN.out.symm, hbel⟩

theorem cfWithinR : ∀ (args : Array Value) (w : World), (callFunc 153 args).run Tryz.prog w = .ok (.enter 153 args) w := fun _ _ => by simp [go_sem]
theorem cfTwelve : ∀ (args : Array Value) (w : World), (callFunc 190 args).run Tryz.prog w = .ok (.enter 190 args) w := fun _ _ => by simp [go_sem]
theorem cfCompareWide : ∀ (args : Array Value) (w : World), (callFunc 189 args).run Tryz.prog w = .ok (.enter 189 args) w := fun _ _ => by simp [go_sem]

/-- what decimals says of two values -/
def decV (x y : VD) : Int :=
  if scaleOk x.sc != scaleOk y.sc then (if scaleOk x.sc then -1 else 1)
  else if scaleOk x.sc then orI (cmpI (x.n * 10 ^ (12 - x.sc).toNat) (y.n * 10 ^ (12 - y.sc).toNat)) (cmpI x.sc y.sc) else orI (cmpI x.n y.n) (cmpI x.sc y.sc)
theorem orI_pos {a b : Int} (h : a ≠ 0) : orI a b = a := if_pos h
theorem orI_neg {a b : Int} (h : a = 0) : orI a b = b := by unfold orI; rw [if_neg (by simp [h])]
theorem cmpI_ne {a b : Int} (h : a ≠ b) : cmpI a b ≠ 0 := by
  rcases Int.lt_or_le a b with h1 | h1
  · rw [cmpI_lt h1]; decide
  · rw [cmpI_gt (by omega)]; decide

set_option maxHeartbeats 2000000 in
theorem decimals_any (x y : VD) (ho1 : x.ok) (ho2 : y.ok) (A1 A2 : Option Addr) (c1 c2 : Nat) (w : World) :
    Calls Tryz.prog 151 #[tx x A1 c1, tx y A2 c2] w fun e w' => e = .returned (.int .i64 (decV x y)) ∧ Below w.heap.size w w' := by
  unfold tx
  have HO1 := Lib.hid ho1
  have HO2 := Lib.hid ho2
  have HE := Lib.hid (show decV x y = if scaleOk x.sc != scaleOk y.sc then (if scaleOk x.sc then -1 else 1)
    else if scaleOk x.sc then orI (cmpI (x.n * 10 ^ (12 - x.sc).toNat) (y.n * 10 ^ (12 - y.sc).toNat)) (cmpI x.sc y.sc) else orI (cmpI x.n y.n) (cmpI x.sc y.sc) from rfl)
  clear ho1 ho2
  go_enter Tryz.func151, Tryz.ntmps151
  have st := cmpStart w x y A1 c1 A2 c2
  go_wp2_with fail
  generalize (w.alloc (.cells #[.int .i64 x.k, .int .i64 x.n, .int .i64 x.sc, .string x.s, .slice A1 x.items.length c1] 33)).alloc (.cells #[.int .i64 y.k, .int .i64 y.n, .int .i64 y.sc, .string y.s, .slice A2 y.items.length c2] 33) = W at st ⊢
  have q0 := fun w' (h : Tab.Ext (fun _ => False) W.drew w') => wcell5 (st.B0.drew.ext h id)
  have q1 := fun w' (h : Tab.Ext (fun _ => False) W.drew w') => wcell5 (st.B1.drew.ext h id)
  refine Tab.wp_region_tab (Tab.Ext fun _ => False) (by kernel_rfl) (by kernel_rfl) (fun _ => Tab.Ext.refl _ _) (fun _ _ _ h k => h.trans k) ?_
  iterate 2 (first | (refine Tab.tab_moveE _ rfl (Tab.silent_true _) (.inl rfl) rfl rfl (fun _ => Tab.Ext.refl _ _) ?_; apply Exists.intro; refine And.intro ?_ ?_; focus (simp [Tab.Env.ev, Tab.Env.get]; rfl)) | (refine Tab.tab_moveE _ rfl (Tab.silent_true _) (.inr rfl) rfl rfl (fun _ => Tab.Ext.refl _ _) ?_; apply Exists.intro; refine And.intro ?_ ?_; focus (simp [Tab.Env.ev, Tab.Env.get]; rfl)) | refine Tab.tab_skip rfl (Tab.silent_true _) rfl ?_ | (refine Tab.tab_repE rfl (Tab.silent_true _) rfl (fun _ _ h => by cases h) rfl (fun _ => Tab.Ext.refl _ _) ?_; apply Exists.intro; refine And.intro (fun l w' _ _ hw => ?_) ?_; focus (go_simp; rfl)) | (refine Tab.tab_repE rfl (Tab.silent_true _) rfl (fun _ _ h => by cases h) rfl (fun _ => Tab.Ext.refl _ _) ?_; apply Exists.intro; refine And.intro (fun l w' hs hc hw => ?_) ?_; focus (go_simp; rfl)))
  refine Tab.tab_call_is (.bool (scaleOk x.sc)) rfl rfl rfl cfWithinR rfl (fun l_ w' _ _ _ hw => ?_) ?_
  · show Calls _ _ #[.int .i64 x.sc, .int .i64 0, .int .i64 12] w' _
    refine (withinR_any _ _ _ _).mono ?_
    rintro e_ w_ ⟨rfl, rfl⟩
    exact ⟨rfl, Tab.Ext.refl _ _, trivial⟩
  iterate 2 (first | (refine Tab.tab_moveE _ rfl (Tab.silent_true _) (.inl rfl) rfl rfl (fun _ => Tab.Ext.refl _ _) ?_; apply Exists.intro; refine And.intro ?_ ?_; focus (simp [Tab.Env.ev, Tab.Env.get]; rfl)) | (refine Tab.tab_moveE _ rfl (Tab.silent_true _) (.inr rfl) rfl rfl (fun _ => Tab.Ext.refl _ _) ?_; apply Exists.intro; refine And.intro ?_ ?_; focus (simp [Tab.Env.ev, Tab.Env.get]; rfl)) | refine Tab.tab_skip rfl (Tab.silent_true _) rfl ?_ | (refine Tab.tab_repE rfl (Tab.silent_true _) rfl (fun _ _ h => by cases h) rfl (fun _ => Tab.Ext.refl _ _) ?_; apply Exists.intro; refine And.intro (fun l w' _ _ hw => ?_) ?_; focus (go_simp; rfl)) | (refine Tab.tab_repE rfl (Tab.silent_true _) rfl (fun _ _ h => by cases h) rfl (fun _ => Tab.Ext.refl _ _) ?_; apply Exists.intro; refine And.intro (fun l w' hs hc hw => ?_) ?_; focus (go_simp; rfl)))
  refine Tab.tab_call_is (.bool (scaleOk y.sc)) rfl rfl rfl cfWithinR rfl (fun l_ w' _ _ _ hw => ?_) ?_
  · show Calls _ _ #[.int .i64 y.sc, .int .i64 0, .int .i64 12] w' _
    refine (withinR_any _ _ _ _).mono ?_
    rintro e_ w_ ⟨rfl, rfl⟩
    exact ⟨rfl, Tab.Ext.refl _ _, trivial⟩
  iterate 2 (first | (refine Tab.tab_moveE _ rfl (Tab.silent_true _) (.inl rfl) rfl rfl (fun _ => Tab.Ext.refl _ _) ?_; apply Exists.intro; refine And.intro ?_ ?_; focus (simp [Tab.Env.ev, Tab.Env.get]; rfl)) | (refine Tab.tab_moveE _ rfl (Tab.silent_true _) (.inr rfl) rfl rfl (fun _ => Tab.Ext.refl _ _) ?_; apply Exists.intro; refine And.intro ?_ ?_; focus (simp [Tab.Env.ev, Tab.Env.get]; rfl)) | refine Tab.tab_skip rfl (Tab.silent_true _) rfl ?_ | (refine Tab.tab_repE rfl (Tab.silent_true _) rfl (fun _ _ h => by cases h) rfl (fun _ => Tab.Ext.refl _ _) ?_; apply Exists.intro; refine And.intro (fun l w' _ _ hw => ?_) ?_; focus (go_simp; rfl)) | (refine Tab.tab_repE rfl (Tab.silent_true _) rfl (fun _ _ h => by cases h) rfl (fun _ => Tab.Ext.refl _ _) ?_; apply Exists.intro; refine And.intro (fun l w' hs hc hw => ?_) ?_; focus (go_simp; rfl)))
  intro a_ w_ hw_ hsat_
  refine Tab.fin_of_sat rfl ?_ hsat_
  simp only [Tab.fin, Act.put, List.setIfInBounds_toArray, List.set_cons_succ, List.set_cons_zero]
  have st : CmpStart w w_ x y A1 c1 A2 c2 := ⟨st.B0.drew.ext hw_ id, st.B1.drew.ext hw_ id, st.below.drew.trans (hw_.below.mono st.below.size)⟩
  rename CmpStart w W x y A1 c1 A2 c2 => st0
  clear hsat_ hw_ q0 q1 st0 W
  by_cases hx : scaleOk x.sc = true
  · rw [hx] at HE ⊢
    by_cases hy : scaleOk y.sc = true
    · rw [hy] at HE ⊢
      go_wp2_with fail
      have q0 := fun w' (h : Tab.Ext (fun _ => False) w_.drew w') => wcell5 (st.B0.drew.ext h id)
      have q1 := fun w' (h : Tab.Ext (fun _ => False) w_.drew w') => wcell5 (st.B1.drew.ext h id)
      obtain ⟨d, hd, hsc⟩ : ∃ d : Nat, d ≤ 12 ∧ x.sc = 12 - d := ⟨(12 - x.sc).toNat, by unfold scaleOk at hx; simp at hx; omega⟩
      obtain ⟨d', hd', hsc'⟩ : ∃ d : Nat, d ≤ 12 ∧ y.sc = 12 - d := ⟨(12 - y.sc).toNat, by unfold scaleOk at hy; simp at hy; omega⟩
      have HSC := Lib.hid hsc
      have HSC' := Lib.hid hsc'
      have HE2 := Lib.hid (show decV x y = orI (cmpI (x.n * 10 ^ d) (y.n * 10 ^ d')) (cmpI x.sc y.sc) by
        rw [HE.out]
        simp only [bne_self_eq_false, Bool.false_eq_true, if_false, if_true]
        rw [HSC.out, HSC'.out, show ((12 : Int) - (12 - d)).toNat = d by omega, show ((12 : Int) - (12 - d')).toNat = d' by omega])
      clear hsc hsc' HE hx hy
      refine Tab.wp_region_tab (Tab.Ext fun _ => False) (by kernel_rfl) (by kernel_rfl) (fun _ => Tab.Ext.refl _ _) (fun _ _ _ h k => h.trans k) ?_
      iterate 1 (first | (refine Tab.tab_moveE _ rfl (Tab.silent_true _) (.inl rfl) rfl rfl (fun _ => Tab.Ext.refl _ _) ?_; apply Exists.intro; refine And.intro ?_ ?_; focus (simp [Tab.Env.ev, Tab.Env.get]; rfl)) | (refine Tab.tab_moveE _ rfl (Tab.silent_true _) (.inr rfl) rfl rfl (fun _ => Tab.Ext.refl _ _) ?_; apply Exists.intro; refine And.intro ?_ ?_; focus (simp [Tab.Env.ev, Tab.Env.get]; rfl)) | refine Tab.tab_skip rfl (Tab.silent_true _) rfl ?_ | (refine Tab.tab_repE rfl (Tab.silent_true _) rfl (fun _ _ h => by cases h) rfl (fun _ => Tab.Ext.refl _ _) ?_; apply Exists.intro; refine And.intro (fun l w' _ _ hw => ?_) ?_; focus (go_simp; rfl)) | (refine Tab.tab_repE rfl (Tab.silent_true _) rfl (fun _ _ h => by cases h) rfl (fun _ => Tab.Ext.refl _ _) ?_; apply Exists.intro; refine And.intro (fun l w' hs hc hw => ?_) ?_; focus (go_simp; rfl)))
      refine Tab.tab_callk (.ty fun v w => RV 0 w v (x.n * 10 ^ d)) rfl (fun v w w' hE h => h.ext hE) rfl rfl cfTwelve rfl (fun l w' _ _ _ hw => ?_) ?_
      · show Calls _ _ #[tx x A1 c1] w' _
        refine (twelve_any x HO1.out A1 c1 d hd HSC.out w').mono ?_
        rintro e w2 ⟨v, rfl, ⟨ds, hv, hr⟩, hb⟩
        exact ⟨v, rfl, ⟨ds, hv.base (Nat.zero_le _), hr⟩, Tab.Ext.of_below hb, trivial⟩
      iterate 1 (first | (refine Tab.tab_moveE _ rfl (Tab.silent_true _) (.inl rfl) rfl rfl (fun _ => Tab.Ext.refl _ _) ?_; apply Exists.intro; refine And.intro ?_ ?_; focus (simp [Tab.Env.ev, Tab.Env.get]; rfl)) | (refine Tab.tab_moveE _ rfl (Tab.silent_true _) (.inr rfl) rfl rfl (fun _ => Tab.Ext.refl _ _) ?_; apply Exists.intro; refine And.intro ?_ ?_; focus (simp [Tab.Env.ev, Tab.Env.get]; rfl)) | refine Tab.tab_skip rfl (Tab.silent_true _) rfl ?_ | (refine Tab.tab_repE rfl (Tab.silent_true _) rfl (fun _ _ h => by cases h) rfl (fun _ => Tab.Ext.refl _ _) ?_; apply Exists.intro; refine And.intro (fun l w' _ _ hw => ?_) ?_; focus (go_simp; rfl)) | (refine Tab.tab_repE rfl (Tab.silent_true _) rfl (fun _ _ h => by cases h) rfl (fun _ => Tab.Ext.refl _ _) ?_; apply Exists.intro; refine And.intro (fun l w' hs hc hw => ?_) ?_; focus (go_simp; rfl)))
      refine Tab.tab_callk (.ty fun v w => RV 0 w v (y.n * 10 ^ d')) rfl (fun v w w' hE h => h.ext hE) rfl rfl cfTwelve rfl (fun l w' _ _ _ hw => ?_) ?_
      · show Calls _ _ #[tx y A2 c2] w' _
        refine (twelve_any y HO2.out A2 c2 d' hd' HSC'.out w').mono ?_
        rintro e w2 ⟨v, rfl, ⟨ds, hv, hr⟩, hb⟩
        exact ⟨v, rfl, ⟨ds, hv.base (Nat.zero_le _), hr⟩, Tab.Ext.of_below hb, trivial⟩
      refine Tab.tab_call (.is (.int .i64 (cmpI (x.n * 10 ^ d) (y.n * 10 ^ d')))) rfl (Tab.stable_is _) rfl rfl cfCompareWide (fun l ρ w' _ _ _ hw hx => ?_) ?_
      · have e4 := hx (.tmp 20) (by simp)
        simp only [Tab.Env.tyd, Tab.Env.knows, Tab.Env.get, Nat.reduceEqDiff, if_true, if_false, Tab.Ty.holds] at e4
        have e5 := hx (.tmp 22) (by simp)
        simp only [Tab.Env.tyd, Tab.Env.knows, Tab.Env.get, Nat.reduceEqDiff, if_true, if_false, Tab.Ty.holds] at e5
        simp only [List.map_toArray, List.map_cons, List.map_nil]
        refine (compareWide_any 0 0 _ _ _ _ w' e4 e5).mono ?_
        rintro e w2 ⟨rfl, hb⟩
        exact ⟨_, rfl, rfl, Tab.Ext.of_below hb, trivial⟩
      iterate 1 (first | (refine Tab.tab_moveE _ rfl (Tab.silent_true _) (.inl rfl) rfl rfl (fun _ => Tab.Ext.refl _ _) ?_; apply Exists.intro; refine And.intro ?_ ?_; focus (simp [Tab.Env.ev, Tab.Env.get]; rfl)) | (refine Tab.tab_moveE _ rfl (Tab.silent_true _) (.inr rfl) rfl rfl (fun _ => Tab.Ext.refl _ _) ?_; apply Exists.intro; refine And.intro ?_ ?_; focus (simp [Tab.Env.ev, Tab.Env.get]; rfl)) | refine Tab.tab_skip rfl (Tab.silent_true _) rfl ?_ | (refine Tab.tab_repE rfl (Tab.silent_true _) rfl (fun _ _ h => by cases h) rfl (fun _ => Tab.Ext.refl _ _) ?_; apply Exists.intro; refine And.intro (fun l w' _ _ hw => ?_) ?_; focus (go_simp; rfl)) | (refine Tab.tab_repE rfl (Tab.silent_true _) rfl (fun _ _ h => by cases h) rfl (fun _ => Tab.Ext.refl _ _) ?_; apply Exists.intro; refine And.intro (fun l w' hs hc hw => ?_) ?_; focus (go_simp; rfl)))
      intro a_ w3_ hw3_ hsat_
      refine Tab.fin_of_sat rfl ?_ hsat_
      simp only [Tab.fin, Act.put, List.setIfInBounds_toArray, List.set_cons_succ, List.set_cons_zero]
      intro v22 _ v20 _
      have hbel' := st.below.drew.trans (hw3_.below.mono st.below.size)
      have q0' := q0 _ hw3_
      have q1' := q1 _ hw3_
      clear hsat_ hw3_ q0 q1 st
      by_cases hn : cmpI (x.n * 10 ^ d) (y.n * 10 ^ d') = 0
      · have e1 : (cmpI (x.n * 10 ^ d) (y.n * 10 ^ d') != 0) = false := by simp [hn]
        have HN := Lib.hid (HE2.out.trans (orI_neg hn))
        clear hn
        go_wp2_with (go_at_call 150; refine (order_any _ _ _).mono ?_; rintro e w' ⟨rfl, rfl⟩)
        go_ret
        exact ⟨ret_int HN.out.symm, hbel'⟩
      · have e1 : (cmpI (x.n * 10 ^ d) (y.n * 10 ^ d') != 0) = true := by simp [hn]
        have HN := Lib.hid (HE2.out.trans (orI_pos hn))
        clear hn
        go_wp2_with fail
        go_ret
        exact ⟨ret_int HN.out.symm, hbel'⟩
    · have hy' : scaleOk y.sc = false := by simpa using hy
      rw [hy'] at HE ⊢
      have hbel' := st.below
      clear hy
      go_wp2_with fail
      go_ret
      exact ⟨ret_int HE.out.symm, hbel'⟩
  · have hx' : scaleOk x.sc = false := by simpa using hx
    rw [hx'] at HE ⊢
    clear hx
    by_cases hy : scaleOk y.sc = true
    · rw [hy] at HE ⊢
      have hbel' := st.below
      go_wp2_with fail
      go_ret
      exact ⟨ret_int HE.out.symm, hbel'⟩
    · have hy' : scaleOk y.sc = false := by simpa using hy
      rw [hy'] at HE ⊢
      clear hy
      have q0 := wcell5 st.B0
      have q1 := wcell5 st.B1
      have hbel' := st.below
      clear st
      by_cases hn : x.n = y.n
      · have e1 : (x.n != y.n) = false := by simp [hn]
        have HN := Lib.hid (HE.out.trans (orI_neg (cmpI_eq hn)))
        clear hn
        go_wp2_with (go_at_call 150; refine (order_any _ _ _).mono ?_; rintro e w' ⟨rfl, rfl⟩)
        go_ret
        exact ⟨ret_int HN.out.symm, hbel'⟩
      · have e1 : (x.n != y.n) = true := by simp [hn]
        have HN := Lib.hid (HE.out.trans (orI_pos (cmpI_ne hn)))
        clear hn
        go_wp2_with (go_at_call 150; refine (order_any _ _ _).mono ?_; rintro e w' ⟨rfl, rfl⟩)
        go_ret
        exact ⟨ret_int HN.out.symm, hbel'⟩
end Go.Proofs.YthejmnmkbldacaaGreatDoor
