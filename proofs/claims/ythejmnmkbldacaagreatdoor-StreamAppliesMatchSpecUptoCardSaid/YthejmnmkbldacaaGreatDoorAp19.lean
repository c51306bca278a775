/-
  What is proved: the reference's tests of rows and differences, and its differences of rows. Conditions: the tables of unicode/utf8 lie as they are laid; no list has 2^30 elements or more.
  What is proved: rotate lets two neighbouring parts of a row of differences change places; insertionSort sorts a part. Conditions: none.
  What is proved: symMerge where its first part is one difference. Conditions: none.
-/
import Derived.Test.YthejmnmkbldacaaGreatDoorAp16
import Derived.Test.YthejmnmkbldacaaGreatDoorAp18
set_option linter.all false
namespace Go.Proofs.YthejmnmkbldacaaGreatDoor
open Go.RowKit
attribute [local go_sem] Tab.Env.ev Tab.Env.get

theorem all_first {α : Type} [Inhabited α] (p : α → Bool) (l : List α) (k : Nat) (hk : k < l.length) (h : p (dat l k) = false) : l.all p = false := by
  rw [List.all_eq_false]
  exact ⟨dat l k, dat_mem hk, by simp [h]⟩
theorem all_every {α : Type} [Inhabited α] (p : α → Bool) (l : List α) (h : ∀ j, j < l.length → p (dat l j) = true) : l.all p = true := List.all_eq_true.2 fun d hd => by
  obtain ⟨j, hj, rfl⟩ := List.mem_iff_getElem.1 hd
  have := h j hj
  rwa [dat_eq hj] at this
theorem at_dat (l : List VD) (k : Nat) : at_ l k = dat l k := rfl

set_option maxHeartbeats 1000000 in
set_option maxRecDepth 100000 in
theorem soundRowR_any (F : Nat → Prop) (v : Value) (l : List VD) (w : World) (hr : RI w F v l) (hT : Tabs w) :
    Calls Tryz.prog 54 #[v] w fun e w' => e = .returned (.bool (rowSound l)) ∧ Below w.heap.size w w' := by
  obtain ⟨A, c, iA, iC, rfl, hc, hm, hs, hw, hri⟩ := hr.shape
  have HT := Lib.hid hT
  have HS := Lib.hid hs
  have HW := Lib.hid hw
  have HR := Lib.hid hri
  clear hs hw hri hr hT
  unfold maxLen at hm
  obtain ⟨n, hln⟩ : ∃ n, l.length = n := ⟨_, rfl⟩
  rw [hln] at hc ⊢
  have HN := Lib.hid hln
  clear hln
  go_enter Tryz.func54, Tryz.ntmps54
  go_wp2_with fail
  go_loopw [2, 4, 7] (fun _ _ i wr => ∃ k : Nat, k ≤ n ∧ i = .int .i64 k ∧ Hid (∀ j, j < k → soundB (dat l j) = true) ∧ Below w.heap.size w wr) (fun _ _ i _ => n - (intOf i).toNat)
  case atStart => exact ⟨0, Nat.zero_le _, rfl, Lib.hid fun j h => absurd h (Nat.not_lt_zero j), Below.refl _ _⟩
  case round =>
    obtain ⟨k, hk, rfl, HJ, hbel⟩ := hrel
    have HB := Lib.hid hbel
    by_cases hlt : k < n
    · as_aux_lemma =>
      have hkl : k < l.length := by rw [HN.out]; exact hlt
      obtain ⟨b, off, rfl, hF, hb, hcells⟩ := HS.out (by omega)
      have q := (hcells k hkl).keep (hbel.block b hb)
      obtain ⟨q1, q2, q3, q4, q5⟩ := q
      have HY := Lib.hid (HR.out k hkl)
      have HYW := Lib.hid (HW.out k hkl)
      rw [at_dat] at q1 q2 q3 q4 q5 HY HYW
      have HJD := Lib.hid (fun h => all_first soundB l k hkl h)
      have HJN := Lib.hid (fun (h : soundB (dat l k) = true) => (show ∀ j, j < k + 1 → soundB (dat l j) = true from fun j hj => by
        by_cases hjk : j < k
        · exact HJ.out j hjk
        · obtain rfl : j = k := by omega
          exact h))
      clear hcells
      generalize dat l k = y at *
      have HCALL := Lib.hid (fun W (hW : Below w.heap.size w W) => SoundR_any y F (.agg #[.int .i64 y.k, .int .i64 y.n, .int .i64 y.sc, .string y.s, .slice (iA k) y.items.length (iC k)]) W ⟨_, _, rfl, HYW.out, HY.out.later hW⟩ (HT.out.later hW))
      clear hbel
      go_wp2_with fail
      have hbn := below_new wr (.cells #[.int .i64 y.k, .int .i64 y.n, .int .i64 y.sc, .string y.s, .slice (iA k) y.items.length (iC k)] 33)
      have HB1 := Lib.hid (HB.out.trans (hbn.mono HB.out.size))
      clear hbn
      refine (HCALL.out _ HB1.out).mono ?_
      rintro e w1 ⟨rfl, hb1⟩
      have HB2 := Lib.hid (HB1.out.trans (hb1.mono HB1.out.size))
      clear hb1 HCALL
      cases hs : soundB y with
      | true =>
        have HJ2 := Lib.hid (HJN.out hs)
        clear hs HJN HJD
        go_wp2_with fail
        go_roundw
        case rel => exact ⟨k + 1, hlt, by go_num, HJ2, HB2.out⟩
        case measure => simp [intOf] <;> omega
      | false =>
        have HX := Lib.hid (HJD.out hs)
        clear hs HJN HJD
        go_wp2_with fail
        go_ret
        exact ⟨ret_bool HX.out.symm, HB2.out⟩
    · as_aux_lemma =>
      obtain rfl : k = n := by omega
      have HX := Lib.hid (all_every soundB l (fun j hj => HJ.out j (by rw [HN.out] at hj; exact hj)))
      go_wp2_with fail
      go_ret
      exact ⟨ret_bool HX.out.symm, HB.out⟩

/-- a loop that asks each difference: soundDeltas, counted -/
theorem rd_cells {w : World} {F F' : Nat → Prop} {v : Value} {l : List DE} (h : RD w F F' v l) : ∃ A c, v = .slice A l.length c ∧ l.length ≤ c ∧ c ≤ maxLen ∧ (A = none → l.length = 0) := by
  obtain ⟨_, A, c, e, h1, h2, h3⟩ := h.sl
  refine ⟨A, c, e, h1, h2, fun hA => ?_⟩
  rcases Nat.eq_zero_or_pos l.length with h0 | h0
  · exact h0
  · obtain ⟨b, off, e, _⟩ := h3 h0
    rw [hA] at e; cases e

set_option maxHeartbeats 1000000 in
set_option maxRecDepth 100000 in
theorem soundDeltasR_any (F F' : Nat → Prop) (v : Value) (l : List DE) (w : World) (h : RD w F F' v l) (hT : Tabs w) :
    Calls Tryz.prog 55 #[v] w fun e w' => e = .returned (.bool (allSound l)) ∧ Below w.heap.size w w' := by
  obtain ⟨A, c, rfl, hc, hm, _⟩ := rd_cells h
  have HT := Lib.hid hT
  have HR := Lib.hid h
  clear h hT
  unfold maxLen at hm
  obtain ⟨n, hln⟩ : ∃ n, l.length = n := ⟨_, rfl⟩
  rw [hln] at hc ⊢
  have HN := Lib.hid hln
  clear hln
  go_enter Tryz.func55, Tryz.ntmps55
  go_wp2_with fail
  go_loopw [2, 4, 7] (fun _ _ i wr => ∃ k : Nat, k ≤ n ∧ i = .int .i64 k ∧ Hid (∀ j, j < k → rowSound (dat l j).row = true) ∧ Below w.heap.size w wr) (fun _ _ i _ => n - (intOf i).toNat)
  case atStart => exact ⟨0, Nat.zero_le _, rfl, Lib.hid fun j h => absurd h (Nat.not_lt_zero j), Below.refl _ _⟩
  case round =>
    obtain ⟨k, hk, rfl, HJ, hbel⟩ := hrel
    have HB := Lib.hid hbel
    by_cases hlt : k < n
    · as_aux_lemma =>
      have hkl : k < l.length := by rw [HN.out]; exact hlt
      obtain ⟨b, off, c', A1, m1, c1, row, nk, hv, -, -, hb, he, hg, x0, x1⟩ := (HR.out.later hbel).at_ (i := k) hkl
      injection hv with e1 e0 e2
      subst e1
      subst e2
      have HJD := Lib.hid (fun h => all_first (fun d => rowSound d.row) l k hkl h)
      have HJN := Lib.hid (fun (h : rowSound (dat l k).row = true) => (show ∀ j, j < k + 1 → rowSound (dat l j).row = true from fun j hj => by
        by_cases hjk : j < k
        · exact HJ.out j hjk
        · obtain rfl : j = k := by omega
          exact h))
      rw [he] at HJD HJN
      have HROW := Lib.hid (show RI wr F' (.slice A1 m1 c1) row from hg.row)
      have HCALL := Lib.hid (fun W (hW : Below wr.heap.size wr W) => soundRowR_any F' _ row W (HROW.out.later hW) ((HT.out.later hbel).later hW))
      clear e0 he hg hbel
      go_wp2_with fail
      have hbn := below_new wr (.cells #[.slice A1 m1 c1, .int .i64 nk] 86)
      refine (HCALL.out _ hbn).mono ?_
      rintro e w1 ⟨rfl, hb1⟩
      have HB2 := Lib.hid ((HB.out.trans (hbn.mono HB.out.size)).trans (hb1.mono (HB.out.trans (hbn.mono HB.out.size)).size))
      clear hb1 HCALL hbn
      cases hs : rowSound row with
      | true =>
        have HJ2 := Lib.hid (HJN.out hs)
        clear hs HJN HJD
        go_wp2_with fail
        go_roundw
        case rel => exact ⟨k + 1, hlt, by go_num, HJ2, HB2.out⟩
        case measure => simp [intOf] <;> omega
      | false =>
        have HX := Lib.hid (HJD.out hs)
        clear hs HJN HJD
        go_wp2_with fail
        go_ret
        exact ⟨ret_bool HX.out.symm, HB2.out⟩
    · as_aux_lemma =>
      obtain rfl : k = n := by omega
      have HX := Lib.hid (all_every (fun d => rowSound d.row) l (fun j hj => HJ.out j (by rw [HN.out] at hj; exact hj)))
      go_wp2_with fail
      go_ret
      exact ⟨ret_bool HX.out.symm, HB.out⟩

set_option maxHeartbeats 1000000 in
set_option maxRecDepth 100000 in
theorem countedR_any (F F' : Nat → Prop) (v : Value) (l : List DE) (w : World) (h : RD w F F' v l) :
    Calls Tryz.prog 56 #[v] w fun e w' => e = .returned (.bool (rangedB l)) ∧ Below w.heap.size w w' := by
  obtain ⟨A, c, rfl, hc, hm, _⟩ := rd_cells h
  have HR := Lib.hid h
  clear h
  unfold maxLen at hm
  obtain ⟨n, hln⟩ : ∃ n, l.length = n := ⟨_, rfl⟩
  rw [hln] at hc ⊢
  have HN := Lib.hid hln
  clear hln
  go_enter Tryz.func56, Tryz.ntmps56
  go_wp2_with fail
  go_loopw [2, 4, 7] (fun _ _ i wr => ∃ k : Nat, k ≤ n ∧ i = .int .i64 k ∧ Hid (∀ j, j < k → timesB (dat l j).n = true) ∧ Below w.heap.size w wr) (fun _ _ i _ => n - (intOf i).toNat)
  case atStart => exact ⟨0, Nat.zero_le _, rfl, Lib.hid fun j h => absurd h (Nat.not_lt_zero j), Below.refl _ _⟩
  case round =>
    obtain ⟨k, hk, rfl, HJ, hbel⟩ := hrel
    have HB := Lib.hid hbel
    by_cases hlt : k < n
    · as_aux_lemma =>
      have hkl : k < l.length := by rw [HN.out]; exact hlt
      obtain ⟨b, off, c', A1, m1, c1, row, nk, hv, -, -, hb, he, hg, x0, x1⟩ := (HR.out.later hbel).at_ (i := k) hkl
      injection hv with e1 e0 e2
      subst e1
      subst e2
      have HJD := Lib.hid (fun h => all_first (fun d => timesB d.n) l k hkl h)
      have HJN := Lib.hid (fun (h : timesB (dat l k).n = true) => (show ∀ j, j < k + 1 → timesB (dat l j).n = true from fun j hj => by
        by_cases hjk : j < k
        · exact HJ.out j hjk
        · obtain rfl : j = k := by omega
          exact h))
      rw [he] at HJD HJN
      clear e0 he hg hbel
      go_wp2_with fail
      have HB2 := Lib.hid (HB.out.trans ((below_new wr (.cells #[.slice A1 m1 c1, .int .i64 nk] 86)).mono HB.out.size))
      refine (within9_any _ _ _ _).mono ?_
      rintro e w1 ⟨rfl, rfl⟩
      have hbb : decide ((-1099511627776 : Int) ≤ nk ∧ nk ≤ 1099511627776) = timesB nk := rfl
      rw [hbb]
      clear hbb
      cases hs : timesB nk with
      | true =>
        have HJ2 := Lib.hid (HJN.out hs)
        clear hs HJN HJD
        go_wp2_with fail
        go_roundw
        case rel => exact ⟨k + 1, hlt, by go_num, HJ2, HB2.out⟩
        case measure => simp [intOf] <;> omega
      | false =>
        have HX := Lib.hid (HJD.out hs)
        clear hs HJN HJD
        go_wp2_with fail
        go_ret
        exact ⟨ret_bool HX.out.symm, HB2.out⟩
    · as_aux_lemma =>
      obtain rfl : k = n := by omega
      have HX := Lib.hid (all_every (fun d => timesB d.n) l (fun j hj => HJ.out j (by rw [HN.out] at hj; exact hj)))
      go_wp2_with fail
      go_ret
      exact ⟨ret_bool HX.out.symm, HB.out⟩

def ofRowsD (l : List RE) (m : Int) : List DE := l.map fun e => ⟨e.rv, e.row, m⟩
set_option maxHeartbeats 2000000 in
theorem ofRows_any (F F' : Nat → Prop) (v : Value) (l : List RE) (m : Int) (hm64 : I64 m) (w : World) (hr : RR w F F' v l) (hn : l.length < 1073741824) :
    Calls Tryz.prog 58 #[v, .int .i64 m] w fun e w' => ∃ v', e = .returned v' ∧ OwnDs w' w.heap.size (fun b => F' b ∧ b < w.heap.size) v' (ofRowsD l m) ∧ Below w.heap.size w w' := by
  obtain ⟨hl, A, c, rfl, hc, hm, -⟩ := hr.sl
  unfold maxLen at hm
  have HR := Lib.hid hr
  have HM64 := Lib.hid hm64
  clear hr hl hm64
  obtain ⟨n, hln⟩ : ∃ n, l.length = n := ⟨_, rfl⟩
  rw [hln] at hn hc ⊢
  have HN := Lib.hid hln
  clear hln
  go_enter Tryz.func58, Tryz.ntmps58
  go_wp2_with fail
  go_loopw [5, 7, 10] (fun s _ i wr => ∃ (k : Nat) (v : Value), k ≤ n ∧ v = s ∧ i = .int .i64 k ∧ OwnDs wr w.heap.size (fun b => F' b ∧ b < w.heap.size) v (ofRowsD (l.take k) m) ∧ Below w.heap.size w wr) (fun _ _ i _ => n - (intOf i).toNat)
  case atStart => exact ⟨0, _, Nat.zero_le _, rfl, rfl, OwnDs.nil _ _ _, Below.refl _ _⟩
  case round =>
    obtain ⟨k, v, hk, rfl, rfl, ho, hbel⟩ := hrel
    have HO := Lib.hid ho
    by_cases hlt : k < n
    · have hrr := HR.out.later hbel
      obtain ⟨b, off, c', A1, m1, c1, row, hv, -, -, hb, -, he, hri, q⟩ := hrr.at_ (i := k) (by rw [HN.out]; exact hlt)
      injection hv with e1 _ e2
      subst e1
      subst e2
      have HT := Lib.hid (show l.take (k + 1) = l.take k ++ [⟨.slice A1 m1 c1, row⟩] by
        rw [List.take_succ_eq_append_getElem (by rw [HN.out]; exact hlt), ← dat_eq, he])
      have HLEN := Lib.hid (show (ofRowsD (l.take k) m).length = k by unfold ofRowsD; rw [List.length_map, List.length_take, HN.out]; omega)
      have HO0 := Lib.hid (show RI w F' (.slice A1 m1 c1) row by have := HR.out.good _ (dat_mem (l := l) (i := k) (by rw [HN.out]; exact hlt)); rw [he] at this; exact this)
      clear hrr he hri ho
      have hs2 : w.heap.size ≤ wr.heap.size := hbel.size
      go_wp2_with (at_builtin; refine append_own2 wr rfl (.tmp 14) (.tmp 18) 23 rfl w.heap.size 86 underD infoD rfl (by decide) _ _ _ (DE.cells ⟨.slice A1 m1 c1, row, m⟩) rfl HO.out.own rfl rfl (by simp [DE.cells, Value.oneCell']) (by rw [HLEN.out]; omega) (by decide) (by omega) ?_)
      intro v' w2 hown' hb2 hkept
      have hgood : (DE.mk (.slice A1 m1 c1) row m).good wr (fun b => (F' b ∧ b < w.heap.size) ∧ v.ownBlock ≠ some b) := by
        refine ⟨((HO0.out.mono (F' := fun b => F' b ∧ b < w.heap.size) (fun b hb h => ⟨hb, h⟩)).later hbel).mono (fun b hb _ => ⟨hb, fun he => ?_⟩), HM64.out⟩
        have := (HO.out.own.lt b he).1
        have := hb.2
        omega
      have O2 := Lib.hid (HO.out.add (e := DE.mk (.slice A1 m1 c1) row m) hown' hkept hgood)
      have hbel2 := hbel.trans hb2
      have HE2 := Lib.hid (show ofRowsD (l.take k) m ++ [DE.mk (.slice A1 m1 c1) row m] = ofRowsD (l.take (k + 1)) m by rw [HT.out]; unfold ofRowsD; rw [List.map_append]; rfl)
      clear hown' hb2 hkept hgood hbel
      go_wp2_with fail
      go_roundw
      case rel => exact ⟨k + 1, _, hlt, rfl, by go_num, HE2.out ▸ O2.out, hbel2⟩
      case measure => simp [intOf] <;> omega
    · obtain rfl : k = n := by omega
      go_wp2_with fail
      go_ret
      refine ⟨_, rfl, ?_, hbel⟩
      have := HO.out
      rw [← HN.out, List.take_length] at this
      exact this
end Go.Proofs.YthejmnmkbldacaaGreatDoor

namespace Go.Proofs.YthejmnmkbldacaaGreatDoor
open Go.RowKit
attribute [local go_sem] Tab.Env.ev Tab.Env.get

set_option maxHeartbeats 2000000 in
theorem rotate_any (g cap : Nat) (F : Nat → Prop) (l : List DE) (w0 w : World) (n : Nat) (st : ST g cap F n w0 w l) (a m b : Nat) (ham : a < m) (hmb : m < b) (hb : b ≤ n) (fv : Value) :
    Calls Tryz.prog 220 #[.slice (some ⟨g, 0, none⟩) n cap, .int .i64 a, .int .i64 m, .int .i64 b, fv] w fun e w' => e = .returned (.tuple #[]) ∧ ∃ l', ST g cap F n w0 w' l' ∧ SameOut l l' a b ∧ ∀ k, dat l' k = rotAt l a m b k := by
  obtain ⟨hcap, hmax⟩ := st.caps
  have hsm := st.small
  have HST := Lib.hid st
  clear st
  go_enter Tryz.func220, Tryz.ntmps220
  go_wp2_with fail
  go_loopw [10, 11] (fun i j wr => ∃ (x y : Nat) (l' : List DE), 0 < x ∧ 0 < y ∧ x ≤ m - a ∧ y ≤ b - m ∧ i = .int .i64 x ∧ j = .int .i64 y ∧ ST g cap F n w0 wr l' ∧ Rot l l' a m b x y) (fun i j _ => (intOf i).toNat + (intOf j).toNat)
  case atStart => exact ⟨m - a, b - m, l, by omega, by omega, by omega, by omega, by congr 1; omega, by congr 1; omega, HST.out, Rot.start _ (by omega) (by omega)⟩
  case round =>
    obtain ⟨x, y, l', hx, hy, hxm, hyb, rfl, rfl, hs, hr⟩ := hrel
    have HS := Lib.hid hs
    have HR := Lib.hid hr
    clear hs hr
    have gx : (0 : Int) ≤ (m : Int) - x := by omega
    by_cases hxy : x = y
    · subst hxy
      have e0 : ((x : Int) != (x : Int)) = false := by simp
      go_wp2_with fail
      rw [show (m : Int) - x = ((m - x : Nat) : Int) by omega]
      refine (swapRange_any g cap F l' w0 wr n HS.out (m - x) m x (by omega) (by omega) fv).mono ?_
      rintro e w1 ⟨rfl, l'', hs', hsw⟩
      have hfin := HR.out.last (by omega) (by omega) hsw
      have HF := Lib.hid hfin
      clear hfin hsw
      go_wp2_with fail
      exact bodyPost_end (results_none rfl _ _ _) rfl ⟨rfl, l'', hs', HF.out⟩
    · have e0 : ((x : Int) != (y : Int)) = true := by simp; omega
      by_cases hlt : y < x
      · go_wp2_with fail
        rw [show (m : Int) - x = ((m - x : Nat) : Int) by omega]
        refine (swapRange_any g cap F l' w0 wr n HS.out (m - x) m y (by omega) (by omega) fv).mono ?_
        rintro e w1 ⟨rfl, l'', hs', hsw⟩
        have HS' := Lib.hid hs'
        have HR' := Lib.hid (HR.out.left (by omega) (by omega) hlt hsw)
        clear hs' hsw
        go_wp2_with fail
        go_roundw
        case rel => exact ⟨x - y, y, l'', by omega, by omega, by omega, by omega, by congr 1; omega, rfl, HS'.out, HR'.out⟩
        case measure => simp [intOf] <;> omega
      · have hlt' : x < y := by omega
        go_wp2_with fail
        rw [show (m : Int) - x = ((m - x : Nat) : Int) by omega, show (m : Int) + y - x = ((m + y - x : Nat) : Int) by omega]
        refine (swapRange_any g cap F l' w0 wr n HS.out (m - x) (m + y - x) x (by omega) (by omega) fv).mono ?_
        rintro e w1 ⟨rfl, l'', hs', hsw⟩
        have HS' := Lib.hid hs'
        have HR' := Lib.hid (HR.out.right (by omega) (by omega) hlt' hsw)
        clear hs' hsw
        go_wp2_with fail
        go_roundw
        case rel => exact ⟨x, y - x, l'', by omega, by omega, by omega, by omega, rfl, by congr 1; omega, HS'.out, HR'.out⟩
        case measure => simp [intOf] <;> omega

/-- the comparison of what lies at two places -/
theorem ST.cmp {F : Nat → Prop} {wr : World} {f : FuncId} (HF : CmpOK f) {d e : DE} (h1 : d.good wr F) (h2 : e.good wr F) :
    ∀ w', Tab.Ext (fun _ => False) wr.drew w' → Calls Tryz.prog f #[d.val, e.val] w' fun r w'' => r = .returned (.int .i64 (cmpD d e)) ∧ Below w'.heap.size w' w'' :=
  fun w' hw => HF.calls F F d e w' (h1.ext (M := fun _ => False) ((Tab.Ext.refl _ wr).drew.trans hw) (fun _ _ => id)) (h2.ext (M := fun _ => False) ((Tab.Ext.refl _ wr).drew.trans hw) (fun _ _ => id))

set_option maxHeartbeats 2000000 in
theorem insertion_any (f : FuncId) (HF : CmpOK f) (g cap : Nat) (F : Nat → Prop) (l : List DE) (w0 w : World) (n : Nat) (st : ST g cap F n w0 w l) (a b : Nat) (hab : a ≤ b) (hb : b ≤ n) :
    Calls Tryz.prog 187 #[.slice (some ⟨g, 0, none⟩) n cap, .int .i64 a, .int .i64 b, .func (.func f) #[] #[]] w fun e w' => e = .returned (.tuple #[]) ∧ ∃ l', ST g cap F n w0 w' l' ∧ SameOut l l' a b ∧ SortedOn cmpD l' a b := by
  obtain ⟨hcap, hmax⟩ := st.caps
  have hsm := st.small
  have HST := Lib.hid st
  have HCMP := Lib.hid HF
  clear st HF
  go_enter Tryz.func187, Tryz.ntmps187
  go_wp2_with fail
  go_loopw [8, 9] (fun i _ wr => ∃ (k : Nat) (l' : List DE), a + 1 ≤ k ∧ (k ≤ b ∨ k = a + 1) ∧ i = .int .i64 k ∧ ST g cap F n w0 wr l' ∧ SameOut l l' a b ∧ SortedOn cmpD l' a k) (fun i _ _ => b - (intOf i).toNat)
  case atStart => exact ⟨a + 1, l, Nat.le_refl _, .inr rfl, by go_num, HST.out, .refl _ _ _, fun k h1 h2 => by omega⟩
  case round =>
    obtain ⟨k, l', hk1, hk2, rfl, hs, hso, hor⟩ := hrel
    have HS := Lib.hid hs
    have HSO := Lib.hid hso
    have HOR := Lib.hid hor
    clear hs hso hor
    by_cases hlt : k < b
    · go_wp2_with fail
      go_loopw [9] (fun j wq => ∃ (jn : Nat) (lj : List DE), j = .int .i64 jn ∧ ST g cap F n w0 wq lj ∧ Ins cmpD l' lj a k jn) (fun j _ => (intOf j).toNat)
      case atStart => exact ⟨k, l', rfl, HS.out, Ins.start HOR.out (by omega)⟩
      case round =>
        obtain ⟨jn, lj, rfl, hs, hins⟩ := hrel
        have hj1 := hins.lo
        have hj2 := hins.hi
        have HINS := Lib.hid hins
        by_cases hja : a < jn
        · obtain ⟨j, rfl⟩ : ∃ j, jn = j + 1 := ⟨jn - 1, by omega⟩
          obtain ⟨A1, m1, c1, r1, n1, e1, g1, p1, q1⟩ := hs.at_ (i := j + 1) (by omega)
          obtain ⟨A2, m2, c2, r2, n2, e2, g2, p2, q2⟩ := hs.at_ (i := j) (by omega)
          have HLEN := Lib.hid hs.len
          have HS' := Lib.hid hs
          have HCALL := Lib.hid (ST.cmp HCMP.out g1 g2)
          have hjn : (0 : Int) ≤ (j : Int) + 1 ∧ (j : Int) + 1 < (n : Int) := by omega
          have hjn' : j < n := by omega
          have wj := IntWalk.i64_in (j : Int) (by omega)
          have hdec : decide ((a : Int) < (j : Int) + 1) = true := by simp; omega
          have HE1 := Lib.hid e1
          have HE2 := Lib.hid e2
          clear hs e1 e2 g1 g2 p1 p2 hins
          go_wp2_with fail
          refine Tab.wp_region_tab (Tab.Ext fun _ => False) (by kernel_rfl) (by kernel_rfl) (fun _ => Tab.Ext.refl _ _) (fun _ _ _ h k => h.trans k) ?_
          iterate 14 (first | (refine Tab.tab_moveE _ rfl (Tab.silent_true _) (.inl rfl) rfl rfl (fun _ => Tab.Ext.refl _ _) ?_; apply Exists.intro; refine And.intro ?_ ?_; focus (simp [Tab.Env.ev, Tab.Env.get]; rfl)) | (refine Tab.tab_moveE _ rfl (Tab.silent_true _) (.inr rfl) rfl rfl (fun _ => Tab.Ext.refl _ _) ?_; apply Exists.intro; refine And.intro ?_ ?_; focus (simp [Tab.Env.ev, Tab.Env.get]; rfl)) | refine Tab.tab_skip rfl (Tab.silent_true _) rfl ?_ | (refine Tab.tab_repE rfl (Tab.silent_true _) rfl (fun _ _ h => by cases h) rfl (fun _ => Tab.Ext.refl _ _) ?_; apply Exists.intro; refine And.intro (fun l w' _ _ hw => ?_) ?_; focus (go_simp; rfl)) | (refine Tab.tab_repE rfl (Tab.silent_true _) rfl (fun _ _ h => by cases h) rfl (fun _ => Tab.Ext.refl _ _) ?_; apply Exists.intro; refine And.intro (fun l w' hs hc hw => ?_) ?_; focus (go_simp; rfl)))
          refine Tab.tab_callv (f := f) (.int .i64 (cmpD ⟨.slice A1 m1 c1, r1, n1⟩ ⟨.slice A2 m2 c2, r2, n2⟩)) rfl rfl rfl rfl rfl HCMP.out.cf rfl (fun l_ w' _ _ _ hw => ?_) ?_
          · show Calls _ _ #[DE.val ⟨.slice A1 m1 c1, r1, n1⟩, DE.val ⟨.slice A2 m2 c2, r2, n2⟩] w' _
            refine (HCALL.out w' hw).mono ?_
            rintro e_ w_ ⟨rfl, hb_⟩
            exact ⟨rfl, Tab.Ext.of_below hb_, trivial⟩
          iterate 2 (first | (refine Tab.tab_moveE _ rfl (Tab.silent_true _) (.inl rfl) rfl rfl (fun _ => Tab.Ext.refl _ _) ?_; apply Exists.intro; refine And.intro ?_ ?_; focus (simp [Tab.Env.ev, Tab.Env.get]; rfl)) | (refine Tab.tab_moveE _ rfl (Tab.silent_true _) (.inr rfl) rfl rfl (fun _ => Tab.Ext.refl _ _) ?_; apply Exists.intro; refine And.intro ?_ ?_; focus (simp [Tab.Env.ev, Tab.Env.get]; rfl)) | refine Tab.tab_skip rfl (Tab.silent_true _) rfl ?_ | (refine Tab.tab_repE rfl (Tab.silent_true _) rfl (fun _ _ h => by cases h) rfl (fun _ => Tab.Ext.refl _ _) ?_; apply Exists.intro; refine And.intro (fun l w' _ _ hw => ?_) ?_; focus (go_simp; rfl)) | (refine Tab.tab_repE rfl (Tab.silent_true _) rfl (fun _ _ h => by cases h) rfl (fun _ => Tab.Ext.refl _ _) ?_; apply Exists.intro; refine And.intro (fun l w' hs hc hw => ?_) ?_; focus (go_simp; rfl)))
          intro a_ w_ hw_ hsat_
          refine Tab.fin_of_sat rfl ?_ hsat_
          simp only [Tab.fin, Act.put, List.setIfInBounds_toArray, List.set_cons_succ, List.set_cons_zero]
          have hs' := HS'.out.laterd hw_
          clear hsat_ hw_ q1 q2 HCALL HS'
          by_cases hc : cmpD ⟨.slice A1 m1 c1, r1, n1⟩ ⟨.slice A2 m2 c2, r2, n2⟩ < 0
          · rw [decide_eq_true hc]
            have HINS2 := Lib.hid (HINS.out.step (by rw [HLEN.out]; omega) hja (by rw [show j + 1 - 1 = j by omega, HE1.out, HE2.out]; exact hc))
            obtain ⟨A1', m1', c1', r1', n1', e1, g1, p1, -⟩ := hs'.at_ (i := j + 1) (by omega)
            obtain ⟨A2', m2', c2', r2', n2', e2, g2, p2, -⟩ := hs'.at_ (i := j) (by omega)
            have hfz := fun i => hs'.frozen i
            have HSW := Lib.hid (hs'.swap (i := j + 1) (j := j) (by omega) (by omega))
            rw [e1, e2] at HSW
            clear hc e1 e2 g1 g2 hs'
            go_wp2_with fail
            refine Tab.wp_region_tabC (fun _ _ => True) (Tab.stage2C 15 17 (fun b1_ b2_ w_' => w_' = if b2_ = true then ((((w_.drew.setCell ⟨g, (j + 1) * 2, none⟩ (.slice A2' m2' c2')).setCell ⟨g, (j + 1) * 2 + 1, none⟩ (.int .i64 n2')).setCell ⟨g, j * 2, none⟩ (.slice A1' m1' c1')).setCell ⟨g, j * 2 + 1, none⟩ (.int .i64 n1')) else if b1_ = true then ((w_.drew.setCell ⟨g, (j + 1) * 2, none⟩ (.slice A2' m2' c2')).setCell ⟨g, (j + 1) * 2 + 1, none⟩ (.int .i64 n2')) else w_.drew)) (by kernel_rfl) (by kernel_rfl) (fun _ => trivial) (fun _ _ _ _ _ => trivial) (Tab.stage2C_start rfl) ?_
            iterate 15 (first | (refine Tab.tab_moveE _ rfl (Tab.silent_at2 (by decide)) (.inl rfl) rfl rfl (fun _ => trivial) ?_; apply Exists.intro; refine And.intro ?_ ?_; focus (simp [Tab.Env.ev, Tab.Env.get]; rfl)) | (refine Tab.tab_moveE _ rfl (Tab.silent_at2 (by decide)) (.inr rfl) rfl rfl (fun _ => trivial) ?_; apply Exists.intro; refine And.intro ?_ ?_; focus (simp [Tab.Env.ev, Tab.Env.get]; rfl)) | refine Tab.tab_skip rfl (Tab.silent_at2 (by decide)) rfl ?_ | (refine Tab.tab_repE rfl (Tab.silent_at2 (by decide)) rfl (fun _ _ h => by cases h) rfl (fun _ => trivial) ?_; apply Exists.intro; refine And.intro (fun l w' _ _ hw => ?_) ?_; focus (go_simp; rfl)) | (refine Tab.tab_repE rfl (Tab.silent_at2 (by decide)) rfl (fun _ _ h => by cases h) rfl (fun _ => trivial) ?_; apply Exists.intro; refine And.intro (fun l w' hs hc hw => ?_) ?_; focus (first | (go_simp; rfl) | (have h := Tab.stage2C_before hc hs ⟨by kernel_rfl, by kernel_rfl⟩; simp only [Bool.false_eq_true, if_false] at h; subst h; go_simp; rfl))))
            (refine Tab.tab_act rfl rfl (fun _ _ h => by cases h) rfl (fun l w' hsz hs hc hw => ?_) ?_; focus (obtain ⟨h2_, h⟩ := Tab.stage2C_first hc hs (by kernel_rfl); simp only [Bool.false_eq_true, if_false] at h; subst h; refine ⟨((w_.drew.setCell ⟨g, (j + 1) * 2, none⟩ (.slice A2' m2' c2')).setCell ⟨g, (j + 1) * 2 + 1, none⟩ (.int .i64 n2')), ?_, trivial, Tab.stage2C_done1 rfl h2_ (by rw [hsz]; decide) (by decide)⟩; go_simp; done))
            iterate 1 (first | (refine Tab.tab_moveE _ rfl (Tab.silent_at2 (by decide)) (.inl rfl) rfl rfl (fun _ => trivial) ?_; apply Exists.intro; refine And.intro ?_ ?_; focus (simp [Tab.Env.ev, Tab.Env.get]; rfl)) | (refine Tab.tab_moveE _ rfl (Tab.silent_at2 (by decide)) (.inr rfl) rfl rfl (fun _ => trivial) ?_; apply Exists.intro; refine And.intro ?_ ?_; focus (simp [Tab.Env.ev, Tab.Env.get]; rfl)) | refine Tab.tab_skip rfl (Tab.silent_at2 (by decide)) rfl ?_ | (refine Tab.tab_repE rfl (Tab.silent_at2 (by decide)) rfl (fun _ _ h => by cases h) rfl (fun _ => trivial) ?_; apply Exists.intro; refine And.intro (fun l w' _ _ hw => ?_) ?_; focus (go_simp; rfl)) | (refine Tab.tab_repE rfl (Tab.silent_at2 (by decide)) rfl (fun _ _ h => by cases h) rfl (fun _ => trivial) ?_; apply Exists.intro; refine And.intro (fun l w' hs hc hw => ?_) ?_; focus (go_simp; rfl)))
            (refine Tab.tab_act rfl rfl (fun _ _ h => by cases h) rfl (fun l w' hsz hs hc hw => ?_) ?_; focus (obtain ⟨h1_, h⟩ := Tab.stage2C_second hc hs (by kernel_rfl); simp only [Bool.false_eq_true, if_false, if_true] at h; subst h; refine ⟨((((w_.drew.setCell ⟨g, (j + 1) * 2, none⟩ (.slice A2' m2' c2')).setCell ⟨g, (j + 1) * 2 + 1, none⟩ (.int .i64 n2')).setCell ⟨g, j * 2, none⟩ (.slice A1' m1' c1')).setCell ⟨g, j * 2 + 1, none⟩ (.int .i64 n1')), ?_, trivial, Tab.stage2C_done2 rfl h1_ (by rw [hsz]; decide) (by decide)⟩; go_simp; done))
            intro l_ a_ w_ hall_ hcl_ _ hsat_
            have hw_ := Tab.stage2C_end hcl_ hall_ (by decide)
            simp only [if_true] at hw_
            subst hw_
            refine Tab.fin_of_sat rfl ?_ hsat_
            simp only [Tab.fin, Act.put, List.setIfInBounds_toArray, List.set_cons_succ, List.set_cons_zero]
            go_wp2_with fail
            go_roundw
            case rel => exact ⟨j, _, by go_num, HSW.out, HINS2.out⟩
            case measure => simp [intOf] <;> omega
          · rw [decide_eq_false hc]
            have HD := Lib.hid (HINS.out.done cmpD_ord (.inr (by rw [show j + 1 - 1 = j by omega, HE1.out, HE2.out]; exact hc)))
            have HSM := Lib.hid (HSO.out.trans (HINS.out.same.wide (Nat.le_refl _) hlt))
            have HS' := Lib.hid hs'
            clear hc hs'
            go_wp2_with fail
            go_roundw
            case rel => exact ⟨k + 1, lj, by omega, .inl hlt, by go_num, HS'.out, HSM.out, HD.out⟩
            case measure => simp [intOf] <;> omega
        · obtain rfl : jn = a := by omega
          have HD := Lib.hid (HINS.out.done cmpD_ord (.inl rfl))
          have HSM := Lib.hid (HSO.out.trans (HINS.out.same.wide (Nat.le_refl _) hlt))
          have HS' := Lib.hid hs
          have hdec : decide ((jn : Int) < (jn : Int)) = false := by simp
          clear hins hs
          go_wp2_with fail
          refine Tab.wp_region_tab (Tab.Ext fun _ => False) (by kernel_rfl) (by kernel_rfl) (fun _ => Tab.Ext.refl _ _) (fun _ _ _ h k => h.trans k) ?_
          iterate 17 (first | (refine Tab.tab_moveE _ rfl (Tab.silent_true _) (.inl rfl) rfl rfl (fun _ => Tab.Ext.refl _ _) ?_; apply Exists.intro; refine And.intro ?_ ?_; focus (simp [Tab.Env.ev, Tab.Env.get]; rfl)) | (refine Tab.tab_moveE _ rfl (Tab.silent_true _) (.inr rfl) rfl rfl (fun _ => Tab.Ext.refl _ _) ?_; apply Exists.intro; refine And.intro ?_ ?_; focus (simp [Tab.Env.ev, Tab.Env.get]; rfl)) | refine Tab.tab_skip rfl (Tab.silent_true _) rfl ?_ | (refine Tab.tab_repE rfl (Tab.silent_true _) rfl (fun _ _ h => by cases h) rfl (fun _ => Tab.Ext.refl _ _) ?_; apply Exists.intro; refine And.intro (fun l w' _ _ hw => ?_) ?_; focus (go_simp; rfl)) | (refine Tab.tab_repE rfl (Tab.silent_true _) rfl (fun _ _ h => by cases h) rfl (fun _ => Tab.Ext.refl _ _) ?_; apply Exists.intro; refine And.intro (fun l w' hs hc hw => ?_) ?_; focus (go_simp; rfl)))
          intro a_ w_ hw_ hsat_
          refine Tab.fin_of_sat rfl ?_ hsat_
          simp only [Tab.fin, Act.put, List.setIfInBounds_toArray, List.set_cons_succ, List.set_cons_zero]
          have hs' := Lib.hid (HS'.out.laterd hw_)
          clear hsat_ hw_
          go_wp2_with fail
          go_roundw
          case rel => exact ⟨k + 1, lj, by omega, .inl hlt, by go_num, hs'.out, HSM.out, HD.out⟩
          case measure => simp [intOf] <;> omega
    · go_wp2_with fail
      exact bodyPost_end (results_none rfl _ _ _) rfl ⟨rfl, l', HS.out, HSO.out, HOR.out.narrow (Nat.le_refl _) (by omega)⟩
end Go.Proofs.YthejmnmkbldacaaGreatDoor

namespace Go.Proofs.YthejmnmkbldacaaGreatDoor
open Go.RowKit
attribute [local go_sem] Tab.Env.ev Tab.Env.get

/-- what symMerge does to the parts from a to m and from m to b -/
def SymC (f : FuncId) (g cap : Nat) (F : Nat → Prop) (n a m b : Nat) : Prop := ∀ (l : List DE) (w0 w : World), ST g cap F n w0 w l → a < m → m < b → b ≤ n → SortedOn cmpD l a m → SortedOn cmpD l m b →
  Calls Tryz.prog 188 #[.slice (some ⟨g, 0, none⟩) n cap, .int .i64 a, .int .i64 m, .int .i64 b, .func (.func f) #[] #[]] w fun e w' => e = .returned (.tuple #[]) ∧ ∃ l', ST g cap F n w0 w' l' ∧ SameOut l l' a b ∧ SortedOn cmpD l' a b
/-- where the search in the second part stands -/
structure Find1 (l : List DE) (a b x y : Nat) : Prop where
  lo : a + 1 ≤ x
  xy : x ≤ y
  hi : y ≤ b
  less : ∀ k, a + 1 ≤ k → k < x → cmpD (dat l k) (dat l a) < 0
  more : ∀ k, y ≤ k → k < b → ¬ cmpD (dat l k) (dat l a) < 0
theorem Find1.start (l : List DE) {a b : Nat} (h : a + 1 ≤ b) : Find1 l a b (a + 1) b := ⟨Nat.le_refl _, h, Nat.le_refl _, fun k h1 h2 => by omega, fun k h1 h2 => by omega⟩
theorem Find1.up {l : List DE} {a b x y h : Nat} (hs : SortedOn cmpD l (a + 1) b) (H : Find1 l a b x y) (h1 : x ≤ h) (h2 : h < y) (hc : cmpD (dat l h) (dat l a) < 0) : Find1 l a b (h + 1) y :=
  ⟨by have := H.lo; omega, h2, H.hi, fun k k1 k2 => cmpD_ord.lt_of_le_lt (hs.le cmpD_ord (i := k) (j := h) k1 (by omega) (by have := H.hi; omega)) hc, H.more⟩
theorem Find1.down {l : List DE} {a b x y h : Nat} (hs : SortedOn cmpD l (a + 1) b) (H : Find1 l a b x y) (h1 : x ≤ h) (h2 : h < y) (hc : ¬ cmpD (dat l h) (dat l a) < 0) : Find1 l a b x h :=
  ⟨H.lo, h1, by have := H.hi; omega, H.less, fun k k1 k2 hk => hc (cmpD_ord.lt_of_le_lt (hs.le cmpD_ord (i := h) (j := k) (by have := H.lo; omega) k1 k2) hk)⟩

set_option maxHeartbeats 4000000 in
set_option maxRecDepth 100000 in
theorem symMerge_one (f : FuncId) (HF : CmpOK f) (g cap : Nat) (F : Nat → Prop) (n a m b : Nat) (hm : m = a + 1) : SymC f g cap F n a m b := by
  intro l w0 w st ham hmb hbn hL hR
  obtain ⟨hcap, hmax⟩ := st.caps
  have hsm := st.small
  have HST := Lib.hid st
  have HCMP := Lib.hid HF
  have HM := Lib.hid hm
  have e0 : ((m : Int) - a == 1) = true := by simp; omega
  rw [hm] at hR
  have HR := Lib.hid hR
  clear st HF hm hR hL
  go_enter Tryz.func188, Tryz.ntmps188
  go_wp2_with fail
  go_loopw [10, 11] (fun i j wr => ∃ (x y : Nat), i = .int .i64 x ∧ j = .int .i64 y ∧ ST g cap F n w0 wr l ∧ Find1 l a b x y) (fun i j _ => (intOf j).toNat - (intOf i).toNat)
  case atStart => exact ⟨m, b, rfl, rfl, HST.out, HM.out ▸ Find1.start l (by omega)⟩
  case round =>
    obtain ⟨x, y, rfl, rfl, hs, hf⟩ := hrel
    have f1 := hf.lo
    have f2 := hf.xy
    have f3 := hf.hi
    have HFI := Lib.hid hf
    have HS := Lib.hid hs
    by_cases hlt : x < y
    · obtain ⟨h, hh⟩ : ∃ h, (x + y) / 2 = h := ⟨_, rfl⟩
      have hh1 : x ≤ h := by omega
      have hh2 : h < y := by omega
      have hx1 : 0 ≤ (x : Int) + y := by omega
      have hx2 : (x : Int) + y < 9223372036854775808 := by omega
      have hx3 : ((x : Int) + y) / 2 = h := by omega
      obtain ⟨A1, m1, c1, r1, n1, e1, g1, p1, q1⟩ := hs.at_ (i := h) (by omega)
      obtain ⟨A2, m2, c2, r2, n2, e2, g2, p2, q2⟩ := hs.at_ (i := a) (by omega)
      have HCALL := Lib.hid (ST.cmp HCMP.out g1 g2)
      have HE1 := Lib.hid e1
      have HE2 := Lib.hid e2
      clear hs e1 e2 g1 g2 p1 p2 hf hh
      have hb1 : h < n := by omega
      have hb2 : a < n := by omega
      go_wp2_with fail
      refine Tab.wp_region_tab (Tab.Ext fun _ => False) (by kernel_rfl) (by kernel_rfl) (fun _ => Tab.Ext.refl _ _) (fun _ _ _ h k => h.trans k) ?_
      iterate 9 (first | (refine Tab.tab_moveE _ rfl (Tab.silent_true _) (.inl rfl) rfl rfl (fun _ => Tab.Ext.refl _ _) ?_; apply Exists.intro; refine And.intro ?_ ?_; focus (simp [Tab.Env.ev, Tab.Env.get]; rfl)) | (refine Tab.tab_moveE _ rfl (Tab.silent_true _) (.inr rfl) rfl rfl (fun _ => Tab.Ext.refl _ _) ?_; apply Exists.intro; refine And.intro ?_ ?_; focus (simp [Tab.Env.ev, Tab.Env.get]; rfl)) | refine Tab.tab_skip rfl (Tab.silent_true _) rfl ?_ | (refine Tab.tab_repE rfl (Tab.silent_true _) rfl (fun _ _ h => by cases h) rfl (fun _ => Tab.Ext.refl _ _) ?_; apply Exists.intro; refine And.intro (fun l w' _ _ hw => ?_) ?_; focus (go_simp; rfl)) | (refine Tab.tab_repE rfl (Tab.silent_true _) rfl (fun _ _ h => by cases h) rfl (fun _ => Tab.Ext.refl _ _) ?_; apply Exists.intro; refine And.intro (fun l w' hs hc hw => ?_) ?_; focus (go_simp; rfl)))
      refine Tab.tab_callv (f := f) (.int .i64 (cmpD ⟨.slice A1 m1 c1, r1, n1⟩ ⟨.slice A2 m2 c2, r2, n2⟩)) rfl rfl rfl rfl rfl HCMP.out.cf rfl (fun l_ w' _ _ _ hw => ?_) ?_
      · show Calls _ _ #[DE.val ⟨.slice A1 m1 c1, r1, n1⟩, DE.val ⟨.slice A2 m2 c2, r2, n2⟩] w' _
        refine (HCALL.out w' hw).mono ?_
        rintro e_ w_ ⟨rfl, hb_⟩
        exact ⟨rfl, Tab.Ext.of_below hb_, trivial⟩
      iterate 1 (first | (refine Tab.tab_moveE _ rfl (Tab.silent_true _) (.inl rfl) rfl rfl (fun _ => Tab.Ext.refl _ _) ?_; apply Exists.intro; refine And.intro ?_ ?_; focus (simp [Tab.Env.ev, Tab.Env.get]; rfl)) | (refine Tab.tab_moveE _ rfl (Tab.silent_true _) (.inr rfl) rfl rfl (fun _ => Tab.Ext.refl _ _) ?_; apply Exists.intro; refine And.intro ?_ ?_; focus (simp [Tab.Env.ev, Tab.Env.get]; rfl)) | refine Tab.tab_skip rfl (Tab.silent_true _) rfl ?_ | (refine Tab.tab_repE rfl (Tab.silent_true _) rfl (fun _ _ h => by cases h) rfl (fun _ => Tab.Ext.refl _ _) ?_; apply Exists.intro; refine And.intro (fun l w' _ _ hw => ?_) ?_; focus (go_simp; rfl)) | (refine Tab.tab_repE rfl (Tab.silent_true _) rfl (fun _ _ h => by cases h) rfl (fun _ => Tab.Ext.refl _ _) ?_; apply Exists.intro; refine And.intro (fun l w' hs hc hw => ?_) ?_; focus (go_simp; rfl)))
      intro a_ w_ hw_ hsat_
      refine Tab.fin_of_sat rfl ?_ hsat_
      simp only [Tab.fin, Act.put, List.setIfInBounds_toArray, List.set_cons_succ, List.set_cons_zero]
      have hs' := Lib.hid (HS.out.laterd hw_)
      clear hsat_ hw_ q1 q2 HCALL
      by_cases hc : cmpD ⟨.slice A1 m1 c1, r1, n1⟩ ⟨.slice A2 m2 c2, r2, n2⟩ < 0
      · rw [decide_eq_true hc]
        have HN := Lib.hid (HFI.out.up HR.out hh1 hh2 (by rw [HE1.out, HE2.out]; exact hc))
        clear hc
        go_wp2_with fail
        go_roundw
        case rel => exact ⟨h + 1, y, by go_num, rfl, hs'.out, HN.out⟩
        case measure => simp [intOf] <;> omega
      · rw [decide_eq_false hc]
        have HN := Lib.hid (HFI.out.down HR.out hh1 hh2 (by rw [HE1.out, HE2.out]; exact hc))
        clear hc
        go_wp2_with fail
        go_roundw
        case rel => exact ⟨x, h, rfl, rfl, hs'.out, HN.out⟩
        case measure => simp [intOf] <;> omega
    · obtain rfl : x = y := by omega
      have hdec : decide ((x : Int) < (x : Int)) = false := by simp
      clear hs hf hlt
      go_wp2_with fail
      go_loopw [13] (fun i wr => ∃ (k : Nat) (l' : List DE), a ≤ k ∧ k ≤ x - 1 ∧ i = .int .i64 k ∧ ST g cap F n w0 wr l' ∧ Up l l' a k) (fun i _ => x - (intOf i).toNat)
      case atStart => exact ⟨a, l, Nat.le_refl _, by omega, rfl, HS.out, Up.start _ _⟩
      case round =>
        obtain ⟨k, l', k1, k2, rfl, hs, hu⟩ := hrel
        have HU := Lib.hid hu
        by_cases hlt : k < x - 1
        · have HLEN := Lib.hid (HS.out.len)
          have hdec : decide ((k : Int) < (x : Int) - 1) = true := by simp; omega
          obtain ⟨A1, m1, c1, r1, n1, e1, g1, p1, -⟩ := hs.at_ (i := k) (by omega)
          obtain ⟨A2, m2, c2, r2, n2, e2, g2, p2, -⟩ := hs.at_ (i := k + 1) (by omega)
          have hfz := fun i => hs.frozen i
          have HSW := Lib.hid (hs.swap (i := k) (j := k + 1) (by omega) (by omega))
          rw [e1, e2] at HSW
          have HU2 := Lib.hid (hu.step k1 (by rw [HLEN.out]; omega))
          have gk : k < n := by omega
          have gk1 : (k : Int) + 1 < n := by omega
          have gk2 : (0 : Int) ≤ (k : Int) + 1 := by omega
          have wi := IntWalk.i64_in ((k : Int) + 1) (by omega)
          have tj : ((k : Int) + 1).toNat = k + 1 := by omega
          clear e1 e2 g1 g2 hs hu
          go_wp2_with fail
          refine Tab.wp_region_tabC (fun _ _ => True) (Tab.stage2C 15 17 (fun b1_ b2_ w_' => w_' = if b2_ = true then ((((wr.drew.setCell ⟨g, k * 2, none⟩ (.slice A2 m2 c2)).setCell ⟨g, k * 2 + 1, none⟩ (.int .i64 n2)).setCell ⟨g, (k + 1) * 2, none⟩ (.slice A1 m1 c1)).setCell ⟨g, (k + 1) * 2 + 1, none⟩ (.int .i64 n1)) else if b1_ = true then ((wr.drew.setCell ⟨g, k * 2, none⟩ (.slice A2 m2 c2)).setCell ⟨g, k * 2 + 1, none⟩ (.int .i64 n2)) else wr.drew)) (by kernel_rfl) (by kernel_rfl) (fun _ => trivial) (fun _ _ _ _ _ => trivial) (Tab.stage2C_start rfl) ?_
          iterate 15 (first | (refine Tab.tab_moveE _ rfl (Tab.silent_at2 (by decide)) (.inl rfl) rfl rfl (fun _ => trivial) ?_; apply Exists.intro; refine And.intro ?_ ?_; focus (simp [Tab.Env.ev, Tab.Env.get]; rfl)) | (refine Tab.tab_moveE _ rfl (Tab.silent_at2 (by decide)) (.inr rfl) rfl rfl (fun _ => trivial) ?_; apply Exists.intro; refine And.intro ?_ ?_; focus (simp [Tab.Env.ev, Tab.Env.get]; rfl)) | refine Tab.tab_skip rfl (Tab.silent_at2 (by decide)) rfl ?_ | (refine Tab.tab_repE rfl (Tab.silent_at2 (by decide)) rfl (fun _ _ h => by cases h) rfl (fun _ => trivial) ?_; apply Exists.intro; refine And.intro (fun l w' _ _ hw => ?_) ?_; focus (go_simp; rfl)) | (refine Tab.tab_repE rfl (Tab.silent_at2 (by decide)) rfl (fun _ _ h => by cases h) rfl (fun _ => trivial) ?_; apply Exists.intro; refine And.intro (fun l w' hs hc hw => ?_) ?_; focus (first | (go_simp; rfl) | (have h := Tab.stage2C_before hc hs ⟨by kernel_rfl, by kernel_rfl⟩; simp only [Bool.false_eq_true, if_false] at h; subst h; go_simp; rfl))))
          (refine Tab.tab_act rfl rfl (fun _ _ h => by cases h) rfl (fun l w' hsz hs hc hw => ?_) ?_; focus (obtain ⟨h2_, h⟩ := Tab.stage2C_first hc hs (by kernel_rfl); simp only [Bool.false_eq_true, if_false] at h; subst h; refine ⟨((wr.drew.setCell ⟨g, k * 2, none⟩ (.slice A2 m2 c2)).setCell ⟨g, k * 2 + 1, none⟩ (.int .i64 n2)), ?_, trivial, Tab.stage2C_done1 rfl h2_ (by rw [hsz]; decide) (by decide)⟩; go_simp; done))
          iterate 1 (first | (refine Tab.tab_moveE _ rfl (Tab.silent_at2 (by decide)) (.inl rfl) rfl rfl (fun _ => trivial) ?_; apply Exists.intro; refine And.intro ?_ ?_; focus (simp [Tab.Env.ev, Tab.Env.get]; rfl)) | (refine Tab.tab_moveE _ rfl (Tab.silent_at2 (by decide)) (.inr rfl) rfl rfl (fun _ => trivial) ?_; apply Exists.intro; refine And.intro ?_ ?_; focus (simp [Tab.Env.ev, Tab.Env.get]; rfl)) | refine Tab.tab_skip rfl (Tab.silent_at2 (by decide)) rfl ?_ | (refine Tab.tab_repE rfl (Tab.silent_at2 (by decide)) rfl (fun _ _ h => by cases h) rfl (fun _ => trivial) ?_; apply Exists.intro; refine And.intro (fun l w' _ _ hw => ?_) ?_; focus (go_simp; rfl)) | (refine Tab.tab_repE rfl (Tab.silent_at2 (by decide)) rfl (fun _ _ h => by cases h) rfl (fun _ => trivial) ?_; apply Exists.intro; refine And.intro (fun l w' hs hc hw => ?_) ?_; focus (go_simp; rfl)))
          (refine Tab.tab_act rfl rfl (fun _ _ h => by cases h) rfl (fun l w' hsz hs hc hw => ?_) ?_; focus (obtain ⟨h1_, h⟩ := Tab.stage2C_second hc hs (by kernel_rfl); simp only [Bool.false_eq_true, if_false, if_true] at h; subst h; refine ⟨((((wr.drew.setCell ⟨g, k * 2, none⟩ (.slice A2 m2 c2)).setCell ⟨g, k * 2 + 1, none⟩ (.int .i64 n2)).setCell ⟨g, (k + 1) * 2, none⟩ (.slice A1 m1 c1)).setCell ⟨g, (k + 1) * 2 + 1, none⟩ (.int .i64 n1)), ?_, trivial, Tab.stage2C_done2 rfl h1_ (by rw [hsz]; decide) (by decide)⟩; go_simp; done))
          intro l_ a_ w_ hall_ hcl_ _ hsat_
          have hw_ := Tab.stage2C_end hcl_ hall_ (by decide)
          simp only [if_true] at hw_
          subst hw_
          refine Tab.fin_of_sat rfl ?_ hsat_
          simp only [Tab.fin, Act.put, List.setIfInBounds_toArray, List.set_cons_succ, List.set_cons_zero]
          go_wp2_with fail
          go_roundw
          case rel => exact ⟨k + 1, _, by omega, by omega, by go_num, HSW.out, HU2.out⟩
          case measure => simp [intOf] <;> omega
        · obtain rfl : k = x - 1 := by omega
          have hdec : decide (((x - 1 : Nat) : Int) < (x : Int) - 1) = false := by simp; omega
          have HS' := Lib.hid hs
          have HF := Lib.hid (hu.sorted cmpD_ord f1 f3 HR.out HFI.out.less HFI.out.more)
          clear hs hu
          go_wp2_with fail
          exact bodyPost_ret (v := .tuple #[]) (results_none rfl _ _ _) rfl ⟨rfl, l', HS'.out, HF.out⟩
end Go.Proofs.YthejmnmkbldacaaGreatDoor
