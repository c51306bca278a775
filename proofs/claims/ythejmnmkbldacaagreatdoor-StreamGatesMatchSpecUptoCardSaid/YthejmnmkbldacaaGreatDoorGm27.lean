/-
  What is proved: the reference's tests of rows and differences, and its differences of rows. Conditions: the tables of unicode/utf8 lie as they are laid; no list has 2^30 elements or more.
  What is proved: the reference's gate with its waiting rows; its Idle; what its operations keep. Conditions: none.
-/
import Derived.Test.YthejmnmkbldacaaGreatDoorGm26
import Derived.Test.YthejmnmkbldacaaGreatDoorGm15
import Derived.Test.YthejmnmkbldacaaGreatDoorGm24
import Derived.Test.YthejmnmkbldacaaGreatDoorGm25
set_option linter.all false
namespace Go.Proofs.YthejmnmkbldacaaGreatDoor
open Go.RowKit
attribute [local go_sem] Tab.Env.ev Tab.Env.get

theorem all_first {α : Type} [Inhabited α] (p : α → Bool) (l : List α) (k : Nat) (hk : k < l.length) (h : p (dat l k) = false) : l.all p = false := by
  rw [List.all_eq_false]
  exact ⟨dat l k, dat_mem hk, by simp [h]⟩
theorem all_every {α : Type} [Inhabited α] (p : α → Bool) (l : List α) (h : ∀ j, j < l.length → p (dat l j) = true) : l.all p = true := List.all_eq_true.2 fun d hd => by
  obtain ⟨j, hj, rfl⟩ := List.mem_iff_getElem.1 hd
  have := h j hj
  rwa [dat_eq hj] at this
theorem at_dat (l : List VD) (k : Nat) : at_ l k = dat l k := rfl

set_option maxHeartbeats 1000000 in
set_option maxRecDepth 100000 in
theorem soundRowR_any (F : Nat → Prop) (v : Value) (l : List VD) (w : World) (hr : RI w F v l) (hT : Tabs w) :
    Calls Tryz.prog 54 #[v] w fun e w' => e = .returned (.bool (rowSound l)) ∧ Below w.heap.size w w' := by
  obtain ⟨A, c, iA, iC, rfl, hc, hm, hs, hw, hri⟩ := hr.shape
  have HT := Lib.hid hT
  have HS := Lib.hid hs
  have HW := Lib.hid hw
  have HR := Lib.hid hri
  clear hs hw hri hr hT
  unfold maxLen at hm
  obtain ⟨n, hln⟩ : ∃ n, l.length = n := ⟨_, rfl⟩
  rw [hln] at hc ⊢
  have HN := Lib.hid hln
  clear hln
  go_enter Tryz.func54, Tryz.ntmps54
  go_wp2_with fail
  go_loopw [2, 4, 7] (fun _ _ i wr => ∃ k : Nat, k ≤ n ∧ i = .int .i64 k ∧ Hid (∀ j, j < k → soundB (dat l j) = true) ∧ Below w.heap.size w wr) (fun _ _ i _ => n - (intOf i).toNat)
  case atStart => exact ⟨0, Nat.zero_le _, rfl, Lib.hid fun j h => absurd h (Nat.not_lt_zero j), Below.refl _ _⟩
  case round =>
    obtain ⟨k, hk, rfl, HJ, hbel⟩ := hrel
    have HB := Lib.hid hbel
    by_cases hlt : k < n
    · as_aux_lemma =>
      have hkl : k < l.length := by rw [HN.out]; exact hlt
      obtain ⟨b, off, rfl, hF, hb, hcells⟩ := HS.out (by omega)
      have q := (hcells k hkl).keep (hbel.block b hb)
      obtain ⟨q1, q2, q3, q4, q5⟩ := q
      have HY := Lib.hid (HR.out k hkl)
      have HYW := Lib.hid (HW.out k hkl)
      rw [at_dat] at q1 q2 q3 q4 q5 HY HYW
      have HJD := Lib.hid (fun h => all_first soundB l k hkl h)
      have HJN := Lib.hid (fun (h : soundB (dat l k) = true) => (show ∀ j, j < k + 1 → soundB (dat l j) = true from fun j hj => by
        by_cases hjk : j < k
        · exact HJ.out j hjk
        · obtain rfl : j = k := by omega
          exact h))
      clear hcells
      generalize dat l k = y at *
      have HCALL := Lib.hid (fun W (hW : Below w.heap.size w W) => SoundR_any y F (.agg #[.int .i64 y.k, .int .i64 y.n, .int .i64 y.sc, .string y.s, .slice (iA k) y.items.length (iC k)]) W ⟨_, _, rfl, HYW.out, HY.out.later hW⟩ (HT.out.later hW))
      clear hbel
      go_wp2_with fail
      have hbn := below_new wr (.cells #[.int .i64 y.k, .int .i64 y.n, .int .i64 y.sc, .string y.s, .slice (iA k) y.items.length (iC k)] 33)
      have HB1 := Lib.hid (HB.out.trans (hbn.mono HB.out.size))
      clear hbn
      refine (HCALL.out _ HB1.out).mono ?_
      rintro e w1 ⟨rfl, hb1⟩
      have HB2 := Lib.hid (HB1.out.trans (hb1.mono HB1.out.size))
      clear hb1 HCALL
      cases hs : soundB y with
      | true =>
        have HJ2 := Lib.hid (HJN.out hs)
        clear hs HJN HJD
        go_wp2_with fail
        go_roundw
        case rel => exact ⟨k + 1, hlt, by go_num, HJ2, HB2.out⟩
        case measure => simp [intOf] <;> omega
      | false =>
        have HX := Lib.hid (HJD.out hs)
        clear hs HJN HJD
        go_wp2_with fail
        go_ret
        exact ⟨ret_bool HX.out.symm, HB2.out⟩
    · as_aux_lemma =>
      obtain rfl : k = n := by omega
      have HX := Lib.hid (all_every soundB l (fun j hj => HJ.out j (by rw [HN.out] at hj; exact hj)))
      go_wp2_with fail
      go_ret
      exact ⟨ret_bool HX.out.symm, HB.out⟩

/-- a loop that asks each difference: soundDeltas, counted -/
theorem rd_cells {w : World} {F F' : Nat → Prop} {v : Value} {l : List DE} (h : RD w F F' v l) : ∃ A c, v = .slice A l.length c ∧ l.length ≤ c ∧ c ≤ maxLen ∧ (A = none → l.length = 0) := by
  obtain ⟨_, A, c, e, h1, h2, h3⟩ := h.sl
  refine ⟨A, c, e, h1, h2, fun hA => ?_⟩
  rcases Nat.eq_zero_or_pos l.length with h0 | h0
  · exact h0
  · obtain ⟨b, off, e, _⟩ := h3 h0
    rw [hA] at e; cases e

set_option maxHeartbeats 1000000 in
set_option maxRecDepth 100000 in
theorem soundDeltasR_any (F F' : Nat → Prop) (v : Value) (l : List DE) (w : World) (h : RD w F F' v l) (hT : Tabs w) :
    Calls Tryz.prog 55 #[v] w fun e w' => e = .returned (.bool (allSound l)) ∧ Below w.heap.size w w' := by
  obtain ⟨A, c, rfl, hc, hm, _⟩ := rd_cells h
  have HT := Lib.hid hT
  have HR := Lib.hid h
  clear h hT
  unfold maxLen at hm
  obtain ⟨n, hln⟩ : ∃ n, l.length = n := ⟨_, rfl⟩
  rw [hln] at hc ⊢
  have HN := Lib.hid hln
  clear hln
  go_enter Tryz.func55, Tryz.ntmps55
  go_wp2_with fail
  go_loopw [2, 4, 7] (fun _ _ i wr => ∃ k : Nat, k ≤ n ∧ i = .int .i64 k ∧ Hid (∀ j, j < k → rowSound (dat l j).row = true) ∧ Below w.heap.size w wr) (fun _ _ i _ => n - (intOf i).toNat)
  case atStart => exact ⟨0, Nat.zero_le _, rfl, Lib.hid fun j h => absurd h (Nat.not_lt_zero j), Below.refl _ _⟩
  case round =>
    obtain ⟨k, hk, rfl, HJ, hbel⟩ := hrel
    have HB := Lib.hid hbel
    by_cases hlt : k < n
    · as_aux_lemma =>
      have hkl : k < l.length := by rw [HN.out]; exact hlt
      obtain ⟨b, off, c', A1, m1, c1, row, nk, hv, -, -, hb, he, hg, x0, x1⟩ := (HR.out.later hbel).at_ (i := k) hkl
      injection hv with e1 e0 e2
      subst e1
      subst e2
      have HJD := Lib.hid (fun h => all_first (fun d => rowSound d.row) l k hkl h)
      have HJN := Lib.hid (fun (h : rowSound (dat l k).row = true) => (show ∀ j, j < k + 1 → rowSound (dat l j).row = true from fun j hj => by
        by_cases hjk : j < k
        · exact HJ.out j hjk
        · obtain rfl : j = k := by omega
          exact h))
      rw [he] at HJD HJN
      have HROW := Lib.hid (show RI wr F' (.slice A1 m1 c1) row from hg.row)
      have HCALL := Lib.hid (fun W (hW : Below wr.heap.size wr W) => soundRowR_any F' _ row W (HROW.out.later hW) ((HT.out.later hbel).later hW))
      clear e0 he hg hbel
      go_wp2_with fail
      have hbn := below_new wr (.cells #[.slice A1 m1 c1, .int .i64 nk] 86)
      refine (HCALL.out _ hbn).mono ?_
      rintro e w1 ⟨rfl, hb1⟩
      have HB2 := Lib.hid ((HB.out.trans (hbn.mono HB.out.size)).trans (hb1.mono (HB.out.trans (hbn.mono HB.out.size)).size))
      clear hb1 HCALL hbn
      cases hs : rowSound row with
      | true =>
        have HJ2 := Lib.hid (HJN.out hs)
        clear hs HJN HJD
        go_wp2_with fail
        go_roundw
        case rel => exact ⟨k + 1, hlt, by go_num, HJ2, HB2.out⟩
        case measure => simp [intOf] <;> omega
      | false =>
        have HX := Lib.hid (HJD.out hs)
        clear hs HJN HJD
        go_wp2_with fail
        go_ret
        exact ⟨ret_bool HX.out.symm, HB2.out⟩
    · as_aux_lemma =>
      obtain rfl : k = n := by omega
      have HX := Lib.hid (all_every (fun d => rowSound d.row) l (fun j hj => HJ.out j (by rw [HN.out] at hj; exact hj)))
      go_wp2_with fail
      go_ret
      exact ⟨ret_bool HX.out.symm, HB.out⟩

set_option maxHeartbeats 1000000 in
set_option maxRecDepth 100000 in
theorem countedR_any (F F' : Nat → Prop) (v : Value) (l : List DE) (w : World) (h : RD w F F' v l) :
    Calls Tryz.prog 56 #[v] w fun e w' => e = .returned (.bool (rangedB l)) ∧ Below w.heap.size w w' := by
  obtain ⟨A, c, rfl, hc, hm, _⟩ := rd_cells h
  have HR := Lib.hid h
  clear h
  unfold maxLen at hm
  obtain ⟨n, hln⟩ : ∃ n, l.length = n := ⟨_, rfl⟩
  rw [hln] at hc ⊢
  have HN := Lib.hid hln
  clear hln
  go_enter Tryz.func56, Tryz.ntmps56
  go_wp2_with fail
  go_loopw [2, 4, 7] (fun _ _ i wr => ∃ k : Nat, k ≤ n ∧ i = .int .i64 k ∧ Hid (∀ j, j < k → timesB (dat l j).n = true) ∧ Below w.heap.size w wr) (fun _ _ i _ => n - (intOf i).toNat)
  case atStart => exact ⟨0, Nat.zero_le _, rfl, Lib.hid fun j h => absurd h (Nat.not_lt_zero j), Below.refl _ _⟩
  case round =>
    obtain ⟨k, hk, rfl, HJ, hbel⟩ := hrel
    have HB := Lib.hid hbel
    by_cases hlt : k < n
    · as_aux_lemma =>
      have hkl : k < l.length := by rw [HN.out]; exact hlt
      obtain ⟨b, off, c', A1, m1, c1, row, nk, hv, -, -, hb, he, hg, x0, x1⟩ := (HR.out.later hbel).at_ (i := k) hkl
      injection hv with e1 e0 e2
      subst e1
      subst e2
      have HJD := Lib.hid (fun h => all_first (fun d => timesB d.n) l k hkl h)
      have HJN := Lib.hid (fun (h : timesB (dat l k).n = true) => (show ∀ j, j < k + 1 → timesB (dat l j).n = true from fun j hj => by
        by_cases hjk : j < k
        · exact HJ.out j hjk
        · obtain rfl : j = k := by omega
          exact h))
      rw [he] at HJD HJN
      clear e0 he hg hbel
      go_wp2_with fail
      have HB2 := Lib.hid (HB.out.trans ((below_new wr (.cells #[.slice A1 m1 c1, .int .i64 nk] 86)).mono HB.out.size))
      refine (within9_any _ _ _ _).mono ?_
      rintro e w1 ⟨rfl, rfl⟩
      have hbb : decide ((-1099511627776 : Int) ≤ nk ∧ nk ≤ 1099511627776) = timesB nk := rfl
      rw [hbb]
      clear hbb
      cases hs : timesB nk with
      | true =>
        have HJ2 := Lib.hid (HJN.out hs)
        clear hs HJN HJD
        go_wp2_with fail
        go_roundw
        case rel => exact ⟨k + 1, hlt, by go_num, HJ2, HB2.out⟩
        case measure => simp [intOf] <;> omega
      | false =>
        have HX := Lib.hid (HJD.out hs)
        clear hs HJN HJD
        go_wp2_with fail
        go_ret
        exact ⟨ret_bool HX.out.symm, HB2.out⟩
    · as_aux_lemma =>
      obtain rfl : k = n := by omega
      have HX := Lib.hid (all_every (fun d => timesB d.n) l (fun j hj => HJ.out j (by rw [HN.out] at hj; exact hj)))
      go_wp2_with fail
      go_ret
      exact ⟨ret_bool HX.out.symm, HB.out⟩

def ofRowsD (l : List RE) (m : Int) : List DE := l.map fun e => ⟨e.rv, e.row, m⟩
set_option maxHeartbeats 2000000 in
theorem ofRows_any (F F' : Nat → Prop) (v : Value) (l : List RE) (m : Int) (hm64 : I64 m) (w : World) (hr : RR w F F' v l) (hn : l.length < 1073741824) :
    Calls Tryz.prog 58 #[v, .int .i64 m] w fun e w' => ∃ v', e = .returned v' ∧ OwnDs w' w.heap.size (fun b => F' b ∧ b < w.heap.size) v' (ofRowsD l m) ∧ Below w.heap.size w w' := by
  obtain ⟨hl, A, c, rfl, hc, hm, -⟩ := hr.sl
  unfold maxLen at hm
  have HR := Lib.hid hr
  have HM64 := Lib.hid hm64
  clear hr hl hm64
  obtain ⟨n, hln⟩ : ∃ n, l.length = n := ⟨_, rfl⟩
  rw [hln] at hn hc ⊢
  have HN := Lib.hid hln
  clear hln
  go_enter Tryz.func58, Tryz.ntmps58
  go_wp2_with fail
  go_loopw [5, 7, 10] (fun s _ i wr => ∃ (k : Nat) (v : Value), k ≤ n ∧ v = s ∧ i = .int .i64 k ∧ OwnDs wr w.heap.size (fun b => F' b ∧ b < w.heap.size) v (ofRowsD (l.take k) m) ∧ Below w.heap.size w wr) (fun _ _ i _ => n - (intOf i).toNat)
  case atStart => exact ⟨0, _, Nat.zero_le _, rfl, rfl, OwnDs.nil _ _ _, Below.refl _ _⟩
  case round =>
    obtain ⟨k, v, hk, rfl, rfl, ho, hbel⟩ := hrel
    have HO := Lib.hid ho
    by_cases hlt : k < n
    · have hrr := HR.out.later hbel
      obtain ⟨b, off, c', A1, m1, c1, row, hv, -, -, hb, -, he, hri, q⟩ := hrr.at_ (i := k) (by rw [HN.out]; exact hlt)
      injection hv with e1 _ e2
      subst e1
      subst e2
      have HT := Lib.hid (show l.take (k + 1) = l.take k ++ [⟨.slice A1 m1 c1, row⟩] by
        rw [List.take_succ_eq_append_getElem (by rw [HN.out]; exact hlt), ← dat_eq, he])
      have HLEN := Lib.hid (show (ofRowsD (l.take k) m).length = k by unfold ofRowsD; rw [List.length_map, List.length_take, HN.out]; omega)
      have HO0 := Lib.hid (show RI w F' (.slice A1 m1 c1) row by have := HR.out.good _ (dat_mem (l := l) (i := k) (by rw [HN.out]; exact hlt)); rw [he] at this; exact this)
      clear hrr he hri ho
      have hs2 : w.heap.size ≤ wr.heap.size := hbel.size
      go_wp2_with (at_builtin; refine append_own2 wr rfl (.tmp 14) (.tmp 18) 23 rfl w.heap.size 86 underD infoD rfl (by decide) _ _ _ (DE.cells ⟨.slice A1 m1 c1, row, m⟩) rfl HO.out.own rfl rfl (by simp [DE.cells, Value.oneCell']) (by rw [HLEN.out]; omega) (by decide) (by omega) ?_)
      intro v' w2 hown' hb2 hkept
      have hgood : (DE.mk (.slice A1 m1 c1) row m).good wr (fun b => (F' b ∧ b < w.heap.size) ∧ v.ownBlock ≠ some b) := by
        refine ⟨((HO0.out.mono (F' := fun b => F' b ∧ b < w.heap.size) (fun b hb h => ⟨hb, h⟩)).later hbel).mono (fun b hb _ => ⟨hb, fun he => ?_⟩), HM64.out⟩
        have := (HO.out.own.lt b he).1
        have := hb.2
        omega
      have O2 := Lib.hid (HO.out.add (e := DE.mk (.slice A1 m1 c1) row m) hown' hkept hgood)
      have hbel2 := hbel.trans hb2
      have HE2 := Lib.hid (show ofRowsD (l.take k) m ++ [DE.mk (.slice A1 m1 c1) row m] = ofRowsD (l.take (k + 1)) m by rw [HT.out]; unfold ofRowsD; rw [List.map_append]; rfl)
      clear hown' hb2 hkept hgood hbel
      go_wp2_with fail
      go_roundw
      case rel => exact ⟨k + 1, _, hlt, rfl, by go_num, HE2.out ▸ O2.out, hbel2⟩
      case measure => simp [intOf] <;> omega
    · obtain rfl : k = n := by omega
      go_wp2_with fail
      go_ret
      refine ⟨_, rfl, ?_, hbel⟩
      have := HO.out
      rw [← HN.out, List.take_length] at this
      exact this
end Go.Proofs.YthejmnmkbldacaaGreatDoor

namespace Go.Proofs.YthejmnmkbldacaaGreatDoor
open Go.RowKit
attribute [local go_sem] Tab.Env.ev Tab.Env.get

/-- the memory that the reference's gate writes -/
def RMut (g : Nat) (mv iv vw : Value) (b : Nat) : Prop := b = g ∨ mv.ownBlock = some b ∨ iv.ownBlock = some b ∨ vw.ownBlock = some b
/-- a gate of the reference, its waiting rows ws and the late rows ls; the rows themselves lie below base -/
structure RGateS (w : World) (base g : Nat) (D : GateD) (mv iv vw : Value) (ws : List RE) (vl : Value) (ls : List RE) : Prop where
  gm : RGateM w base g D mv iv vw
  wown : w.ownsRow base 31 1 vw ws.length (ws.map RE.rv)
  lown : w.ownsRow base 31 1 vl ls.length (ls.map RE.rv)
  sep : ∀ b, vw.ownBlock = some b → vl.ownBlock ≠ some b
  rows : ∀ e, e ∈ ws ∨ e ∈ ls → RI w (fun b => b < base) e.rv e.row
  mom : ∀ e, e ∈ ws → MomRow D.column e.row
section
variable {w w' : World} {base g : Nat} {D D' : GateD} {mv iv vw vl vw' vl' : Value} {ws ls : List RE} {e : RE}
theorem RGateS.ne (h : RGateS w base g D mv iv vw ws vl ls) : vw.ownBlock ≠ some g ∧ vl.ownBlock ≠ some g ∧ (∀ b, mv.ownBlock = some b → vw.ownBlock ≠ some b ∧ vl.ownBlock ≠ some b) ∧ (∀ b, iv.ownBlock = some b → vw.ownBlock ≠ some b ∧ vl.ownBlock ≠ some b) :=
  ⟨own_blk_ne h.wown h.gm.blk (by decide), own_blk_ne h.lown h.gm.blk (by decide), fun b hb => ⟨own_own_ne h.gm.mown h.wown (by decide) b hb, own_own_ne h.gm.mown h.lown (by decide) b hb⟩, fun b hb => ⟨own_own_ne h.gm.iown h.wown (by decide) b hb, own_own_ne h.gm.iown h.lown (by decide) b hb⟩⟩
theorem RGateS.mut (h : RGateS w base g D mv iv vw ws vl ls) (b : Nat) (hm : RMut g mv iv vw b) : base ≤ b ∧ b < w.heap.size := by
  rcases hm with e | e | e | e
  · rw [e]; exact ⟨h.gm.bg, h.gm.blk.lt⟩
  · exact h.gm.mown.lt b e
  · exact h.gm.iown.lt b e
  · exact h.wown.lt b e
theorem rows_keep (h : ∀ e, e ∈ ws ∨ e ∈ ls → RI w (fun b => b < base) e.rv e.row) (hz : w.heap.size ≤ w'.heap.size) (hb : ∀ b, b < base → b < w.heap.size → w'.heap[b]? = w.heap[b]?) : ∀ e, e ∈ ws ∨ e ∈ ls → RI w' (fun b => b < base) e.rv e.row := fun e he => (h e he).keep hz fun b h1 h2 => ⟨hb b h1 h2, h1⟩
theorem RGateS.later (h : RGateS w base g D mv iv vw ws vl ls) (hb : Below w.heap.size w w') : RGateS w' base g D mv iv vw ws vl ls :=
  ⟨h.gm.later hb, own_later h.wown hb, own_later h.lown hb, h.sep, rows_keep h.rows hb.size fun b _ h2 => hb.block b h2, h.mom⟩
/-- the gate itself changed: the waiting rows and the late ones stay -/
theorem RGateS.gate (h : RGateS w base g D mv iv vw ws vl ls) (hm : RGateM w' base g D' mv iv vw) (hc : D'.column = D.column) (hx : Tab.Ext (fun b => b = g ∨ mv.ownBlock = some b ∨ iv.ownBlock = some b) w w') : RGateS w' base g D' mv iv vw ws vl ls := by
  obtain ⟨n1, n2, n3, n4⟩ := h.ne
  refine ⟨hm, own_keep h.wown fun b hb => hx.block b (h.wown.lt b hb).2 ?_, own_keep h.lown fun b hb => hx.block b (h.lown.lt b hb).2 ?_, h.sep, rows_keep h.rows hx.size fun b h1 h2 => hx.block b h2 ?_, by rw [hc]; exact h.mom⟩
  · rintro (e | e | e)
    · rw [e] at hb; exact n1 hb
    · exact (n3 b e).1 hb
    · exact (n4 b e).1 hb
  · rintro (e | e | e)
    · rw [e] at hb; exact n2 hb
    · exact (n3 b e).2 hb
    · exact (n4 b e).2 hb
  · intro e
    have := (h.mut b (e.elim .inl fun e => e.elim (fun e => .inr (.inl e)) fun e => .inr (.inr (.inl e)))).1
    omega
theorem RGateS.drop (h : RGateS w base g D mv iv vw ws vl ls) : RGateS w base g D mv iv vw ws (.slice none 0 0) [] :=
  ⟨h.gm, h.wown, World.ownsRow_nil _ _ _ _, fun _ _ => by simp [Value.ownBlock], fun e he => h.rows e (.inl (he.elim id (fun he => absurd he (by simp)))), h.mom⟩
/-- a further late row -/
theorem RGateS.addLate (h : RGateS w base g D mv iv vw ws vl ls) (ho : w'.ownsRow base 31 1 vl' (ls.length + 1) (ls.map RE.rv ++ [e.rv])) (hk : Kept w w' vl vl') (hbb : Below base w w') (hr : RI w (fun b => b < base) e.rv e.row) : RGateS w' base g D mv iv vw ws vl' (ls ++ [e]) := by
  obtain ⟨n1, n2, n3, n4⟩ := h.ne
  have hrow : ∀ e : RE, RI w (fun b => b < base) e.rv e.row → RI w' (fun b => b < base) e.rv e.row := fun e he => he.keep hk.size fun b h1 h2 => ⟨hbb.block b h1, h1⟩
  refine ⟨h.gm.keep (hk.block g h.gm.blk.lt n2).1 (fun b hb => (hk.block b (h.gm.mown.lt b hb).2 (n3 b hb).2).1) (fun b hb => (hk.block b (h.gm.iown.lt b hb).2 (n4 b hb).2).1), own_keep h.wown fun b hb => (hk.block b (h.wown.lt b hb).2 (h.sep b hb)).1, by rw [List.length_append, List.map_append]; exact ho, fun b hb => (hk.block b (h.wown.lt b hb).2 (h.sep b hb)).2, fun x hx => ?_, h.mom⟩
  rcases hx with hx | hx
  · exact hrow x (h.rows x (.inl hx))
  · rcases List.mem_append.1 hx with hx | hx
    · exact hrow x (h.rows x (.inr hx))
    · rw [List.mem_singleton.1 hx]; exact hrow e hr
/-- a further waiting row, laid into the gate's field -/
theorem RGateS.addWait (h : RGateS w base g D mv iv vw ws vl ls) (ho : w'.ownsRow base 31 1 vw' (ws.length + 1) (ws.map RE.rv ++ [e.rv])) (hk : Kept w w' vw vw') (hbb : Below base w w') (hr : RI w (fun b => b < base) e.rv e.row) (hm : MomRow D.column e.row) : RGateS (w'.setCell ⟨g, 5, none⟩ vw') base g D mv iv vw' (ws ++ [e]) vl ls := by
  obtain ⟨n1, n2, n3, n4⟩ := h.ne
  have hg : Blk w' g 111 [.int .i64 D.column, .int .i64 D.delay, mv, iv, .int .i64 D.mark, vw] := (hk.block g h.gm.blk.lt n1).1.trans h.gm.blk
  have hmo : w'.ownsRow base 3 1 mv D.srcs.length (D.srcs.map fun s => .int .i64 s.1) := own_keep h.gm.mown (fun b hb => (hk.block b (h.gm.mown.lt b hb).2 (n3 b hb).1).1)
  have hio : w'.ownsRow base 4 1 iv D.srcs.length (D.srcs.map fun s => .bool s.2) := own_keep h.gm.iown (fun b hb => (hk.block b (h.gm.iown.lt b hb).2 (n4 b hb).1).1)
  have hsep : ∀ b, vl.ownBlock = some b → vw.ownBlock ≠ some b := fun b hb e => h.sep b e hb
  have hlo : w'.ownsRow base 31 1 vl ls.length (ls.map RE.rv) := own_keep h.lown (fun b hb => (hk.block b (h.lown.lt b hb).2 (hsep b hb)).1)
  have hrow : ∀ e : RE, RI w (fun b => b < base) e.rv e.row → RI (w'.setCell ⟨g, 5, none⟩ vw') (fun b => b < base) e.rv e.row := fun e he => he.keep (by simpa using hk.size) fun b h1 h2 => ⟨(Below.heap_setCell _ _ _ _ (show b ≠ g from fun e => by have := h.gm.bg; omega)).trans (hbb.block b h1), h1⟩
  refine ⟨⟨hg.set_ 5 _, ownsRow_setCell_other hmo (a := ⟨g, 5, none⟩) (own_blk_ne hmo hg (by decide)) _, ownsRow_setCell_other hio (a := ⟨g, 5, none⟩) (own_blk_ne hio hg (by decide)) _, h.gm.bg, h.gm.ok⟩, by rw [List.length_append, List.map_append]; exact ownsRow_setCell_other ho (a := ⟨g, 5, none⟩) (own_blk_ne ho hg (by decide)) _, ownsRow_setCell_other hlo (a := ⟨g, 5, none⟩) (own_blk_ne hlo hg (by decide)) _, fun b hb hb2 => ?_, fun x hx => ?_, fun x hx => ?_⟩
  · exact (hk.block b (h.lown.lt b hb2).2 (hsep b hb2)).2 hb
  · rcases hx with hx | hx
    · rcases List.mem_append.1 hx with hx | hx
      · exact hrow x (h.rows x (.inl hx))
      · rw [List.mem_singleton.1 hx]; exact hrow e hr
    · exact hrow x (h.rows x (.inr hx))
  · rcases List.mem_append.1 hx with hx | hx
    · exact h.mom x hx
    · rw [List.mem_singleton.1 hx]; exact hm

theorem RGateM.setIdleAt {bm bi cm ci : Nat} (h : RGateM w base g D (.slice (some ⟨bm, 0, none⟩) D.srcs.length cm) (.slice (some ⟨bi, 0, none⟩) D.srcs.length ci) vw) {i : Nat} {m : Int} {b0 : Bool} (hi : D.srcs[i]? = some (m, b0)) (b : Bool) : RGateM (w.setCell ⟨bi, i, none⟩ (.bool b)) base g (setSrc D i (m, b)) (.slice (some ⟨bm, 0, none⟩) D.srcs.length cm) (.slice (some ⟨bi, 0, none⟩) D.srcs.length ci) vw := by
  have hl : (setSrc D i (m, b)).srcs.length = D.srcs.length := List.length_set
  have e1 : (setSrc D i (m, b)).srcs.map (fun s => Value.int .i64 s.1) = D.srcs.map (fun s => Value.int .i64 s.1) := by
    show (D.srcs.set i (m, b)).map _ = _
    rw [List.map_set, list_set_self]
    rw [List.getElem?_map, hi]; rfl
  have e2 : (setSrc D i (m, b)).srcs.map (fun s => Value.bool s.2) = (D.srcs.map (fun s => Value.bool s.2)).set i (.bool b) := by
    show (D.srcs.set i (m, b)).map _ = _
    rw [List.map_set]
  have hne : bi ≠ g := fun e => own_blk_ne h.iown h.blk (by decide) (by rw [e]; rfl)
  have hne2 : Value.ownBlock (.slice (some ⟨bm, 0, none⟩) D.srcs.length cm) ≠ some bi := own_own_ne h.iown h.mown (by decide) bi rfl
  exact ⟨h.blk.farB hne.symm _, by rw [hl, e1]; exact ownsRow_setCell_other h.mown (a := ⟨bi, i, none⟩) hne2 _, by rw [hl, e2]; exact (h.iown.stored i _).1, h.bg, setSrc_ok h.ok i _ (h.ok.srcs (m, b0) (List.mem_of_getElem? hi))⟩
theorem RGateM.setMarkAt {bm bi cm ci : Nat} (h : RGateM w base g D (.slice (some ⟨bm, 0, none⟩) D.srcs.length cm) (.slice (some ⟨bi, 0, none⟩) D.srcs.length ci) vw) {i : Nat} {m0 : Int} {b : Bool} (hi : D.srcs[i]? = some (m0, b)) (m : Int) (hm : Mom m) : RGateM (w.setCell ⟨bm, i, none⟩ (.int .i64 m)) base g (setSrc D i (m, b)) (.slice (some ⟨bm, 0, none⟩) D.srcs.length cm) (.slice (some ⟨bi, 0, none⟩) D.srcs.length ci) vw := by
  have hl : (setSrc D i (m, b)).srcs.length = D.srcs.length := List.length_set
  have e1 : (setSrc D i (m, b)).srcs.map (fun s => Value.bool s.2) = D.srcs.map (fun s => Value.bool s.2) := by
    show (D.srcs.set i (m, b)).map _ = _
    rw [List.map_set, list_set_self]
    rw [List.getElem?_map, hi]; rfl
  have e2 : (setSrc D i (m, b)).srcs.map (fun s => Value.int .i64 s.1) = (D.srcs.map (fun s => Value.int .i64 s.1)).set i (.int .i64 m) := by
    show (D.srcs.set i (m, b)).map _ = _
    rw [List.map_set]
  have hne : bm ≠ g := fun e => own_blk_ne h.mown h.blk (by decide) (by rw [e]; rfl)
  have hne2 : Value.ownBlock (.slice (some ⟨bi, 0, none⟩) D.srcs.length ci) ≠ some bm := own_own_ne h.mown h.iown (by decide) bm rfl
  exact ⟨h.blk.farB hne.symm _, by rw [hl, e2]; exact (h.mown.stored i _).1, by rw [hl, e1]; exact ownsRow_setCell_other h.iown (a := ⟨bm, i, none⟩) hne2 _, h.bg, setSrc_ok h.ok i _ hm⟩
end

def IdleRPost (base g : Nat) (D : GateD) (mv iv vw : Value) (source : Int) (w : World) (e : Ending) (w' : World) : Prop :=
  Tab.Ext (fun b => b = g ∨ mv.ownBlock = some b ∨ iv.ownBlock = some b) w w' ∧ ((¬ (0 ≤ source ∧ source ≤ (D.srcs.length : Int) - 1) ∧ e = .returned (.int .i64 3) ∧ RGateM w' base g D mv iv vw) ∨
    ((0 ≤ source ∧ source ≤ (D.srcs.length : Int) - 1) ∧ e = .returned (.int .i64 0) ∧ RGateM w' base g (idleD D source.toNat) mv iv vw))
set_option maxHeartbeats 1000000 in
theorem idleR_any (w : World) (base g : Nat) (D : GateD) (mv iv vw : Value) (h : RGateM w base g D mv iv vw) (source : Int) :
    Calls Tryz.prog 23 #[.pointer (some ⟨g, 0, none⟩), .int .i64 source] w (IdleRPost base g D mv iv vw source w) := by
  obtain ⟨bm, cm, bi, ci, rfl, rfl, hbm, hbi, hcm, hci, hcm2, hci2, _, _⟩ := h.form
  have HG := Lib.hid h
  have q := wcell6 h.blk
  have hfew := h.ok.few
  have hsome := h.ok.some_
  obtain ⟨n, hn⟩ : ∃ n, D.srcs.length = n := ⟨_, rfl⟩
  have HNN := Lib.hid hn
  cases hd : decide ((0 : Int) ≤ source ∧ source ≤ (n : Int) - 1) with
  | false =>
    have HN := Lib.hid (of_decide_eq_false hd)
    have HD := Lib.hid hd
    rw [hn] at q hfew hsome HG ⊢
    clear h hd hn
    go_enter Tryz.func23, Tryz.ntmps23
    go_wp2_with fail
    refine (within9_any _ _ _ _).mono ?_
    rintro e w1 ⟨rfl, rfl⟩
    rw [HD.out]
    go_wp2_with fail
    go_ret
    exact ⟨Tab.Ext.refl _ _, .inl ⟨by rw [HNN.out]; exact HN.out, rfl, HG.out⟩⟩
  | true =>
    have hin : (0 : Int) ≤ source ∧ source ≤ (n : Int) - 1 := of_decide_eq_true hd
    have HN := Lib.hid hin
    have HD := Lib.hid hd
    obtain ⟨i, rfl⟩ : ∃ i : Nat, source = i := ⟨source.toNat, by omega⟩
    have hi : i < n := by omega
    obtain ⟨m, b0, hg, c1, c2⟩ := h.at_ (i := i) (by omega)
    have HS := Lib.hid (h.setIdleAt hg true)
    have fz := h.iown.frozenAt i
    have HE := Lib.hid (show idleD D i = advD (setSrc D i (m, true)) by unfold idleD; rw [hg])
    have HX := Lib.hid ((Tab.Ext.refl (fun b => b = g ∨ Value.ownBlock (.slice (some ⟨bm, 0, none⟩) n cm) = some b ∨ Value.ownBlock (.slice (some ⟨bi, 0, none⟩) n ci) = some b) w).setCell (p := ⟨bi, i, none⟩) (.inl (.inr (.inr rfl))) (.bool true))
    rw [hn] at q hfew hsome HG hcm hci HS ⊢
    clear h hd hg hn
    go_enter Tryz.func23, Tryz.ntmps23
    go_wp2_with fail
    refine (within9_any _ _ _ _).mono ?_
    rintro e w1 ⟨rfl, rfl⟩
    rw [HD.out]
    go_wp2_with fail
    refine (move_any _ base g _ _ _ vw HS.out).mono ?_
    rintro e w2 ⟨rfl, o1, o2⟩
    have O := Lib.hid (And.intro o1 (HX.out.trans (o2.mono fun b _ hb => .inl hb)))
    clear o1 o2 HX
    go_wp2_with fail
    go_ret
    exact ⟨O.out.2, .inr ⟨by rw [HNN.out]; exact HN.out, rfl, by rw [Int.toNat_natCast, HE.out]; exact O.out.1⟩⟩
end Go.Proofs.YthejmnmkbldacaaGreatDoor
